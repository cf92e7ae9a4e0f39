/- Following a path down the tree of fractions: the reference's function. -/
import Derived.Test.YtfnfbomnijlhcaaDoorVxWk
import Derived.Test.YtfnfbomnijlhcaaDoorVpFp
namespace Go.Vx
open Go Go.Proofs
set_option maxRecDepth 100000
set_option linter.unusedSimpArgs false
set_option linter.unusedVariables false

theorem byteA_at {s : ByteArray} {i : Nat} (h : i < s.size) : ∃ c : UInt8, s.data.toList.drop i = c :: s.data.toList.drop (i + 1) ∧ byteA s i = (c.toNat : Int) := by
  have h2 : i < s.data.toList.length := by simpa using h
  refine ⟨s.data.toList[i], List.drop_eq_getElem_cons h2, ?_⟩
  unfold byteA
  simp only [List.getD, List.getElem?_eq_getElem h2, Option.getD_some]
theorem u8_is {c : UInt8} {n : Nat} (hn : n < 256) : ((c.toNat : Int) = n) ↔ c = UInt8.ofNat n := by
  constructor
  · intro h
    apply UInt8.toNat_inj.1
    rw [UInt8.toNat_ofNat']
    omega
  · rintro rfl
    rw [UInt8.toNat_ofNat']
    omega
theorem fp_lgood {a b p q : Int} (h : WI ⟨⟨a, b⟩, ⟨p, q⟩⟩) (h1 : inB (a + (a + p)) 0 1000000000 = true) (h2 : inB (b + (b + q)) 0 1000000000 = true) : goodRt (hereP (turnP ⟨⟨a, b⟩, ⟨p, q⟩⟩ true)) = true := by
  rw [h.good true, decide_eq_true_eq]
  simp only [inB, decide_eq_true_eq] at h1 h2
  exact ⟨h1.2, h2.2⟩
theorem fp_rgood {a b p q : Int} (h : WI ⟨⟨a, b⟩, ⟨p, q⟩⟩) (h1 : inB (a + p + p) 0 1000000000 = true) (h2 : inB (b + q + q) 0 1000000000 = true) : goodRt (hereP (turnP ⟨⟨a, b⟩, ⟨p, q⟩⟩ false)) = true := by
  rw [h.good false, decide_eq_true_eq]
  simp only [inB, decide_eq_true_eq] at h1 h2
  exact ⟨h1.2, h2.2⟩
theorem fp_lbad {a b p q : Int} (h : WI ⟨⟨a, b⟩, ⟨p, q⟩⟩) (h1 : inB (a + (a + p)) 0 1000000000 = false ∨ inB (b + (b + q)) 0 1000000000 = false) : goodRt (hereP (turnP ⟨⟨a, b⟩, ⟨p, q⟩⟩ true)) = false := by
  rw [h.good true, decide_eq_false_iff_not]
  have := h.xn; have := h.xd; have := h.yn; have := h.yd
  simp only [inB, decide_eq_false_iff_not] at h1
  intro h2
  change a + (a + p) ≤ _ ∧ b + (b + q) ≤ _ at h2
  dsimp only at *
  omega
theorem fp_rbad {a b p q : Int} (h : WI ⟨⟨a, b⟩, ⟨p, q⟩⟩) (h1 : inB (a + p + p) 0 1000000000 = false ∨ inB (b + q + q) 0 1000000000 = false) : goodRt (hereP (turnP ⟨⟨a, b⟩, ⟨p, q⟩⟩ false)) = false := by
  rw [h.good false, decide_eq_false_iff_not]
  have := h.xn; have := h.xd; have := h.yn; have := h.yd
  simp only [inB, decide_eq_false_iff_not] at h1
  intro h2
  change a + p + p ≤ _ ∧ b + q + q ≤ _ at h2
  dsimp only at *
  omega
noncomputable def s_spec_FollowPath : Sig := ⟨10, [.val .str], [.val .rat, .val .bool], fun ((s : ByteArray), _) => ⟨[], ((fpRes s).1, (fpRes s).2, ()), ()⟩⟩
theorem ok_spec_FollowPath : GSpec Tryd.prog s_spec_FollowPath := by
  refine fn_known tab_ok fol ((Known.nil.cons ok_spec_l1In (by kernel_rfl)).cons ok_spec_raMake (by kernel_rfl)) (by decide) Tryd.func10 ?_
  rintro ⟨(s : ByteArray), ⟨⟩⟩ - -
  repeat' (first | with_reducible apply andAll_cons | with_reducible apply andAll_nil | (with_reducible apply Cf.mk; kernel_rfl) | apply And.intro | intro _ | exact True.intro | apply Lf.mk)
  all_goals (try simp only [Bool.not_eq_true', Bool.not_eq_false', Bool.not_not, decide_eq_true_eq, decide_eq_false_iff_not, beq_iff_eq, bne_iff_ne, beq_eq_false_iff_ne, bne_eq_false_iff_eq, ne_eq, Bool.and_eq_true, Bool.and_eq_false_iff, Bool.or_eq_true, Bool.or_eq_false_iff, Int.toNat_natCast, Nat.zero_add, Int.ofNat_lt, Int.ofNat_le, List.length_cons, List.length_nil, List.drop_zero, List.take_length] at *)
  all_goals first | (rw [fpRes_f (by omega)]; done) | skip
  rename_i h1
  have hr := fpRes_t (s := s) (by omega)
  refine ⟨Pt × Nat, fun x => ⟨[(4, .sc (.num .i64 x.1.x.num)), (5, .sc (.num .i64 x.1.x.den)), (6, .sc (.num .i64 x.1.y.num)), (7, .sc (.num .i64 x.1.y.den)), (8, .sc (.num .i64 x.2))], [2], []⟩, fun x => x.2 ≤ s.size ∧ WI x.1 ∧ fpG (s.data.toList.drop x.2) x.1 = fpRes s, fun x => s.size - x.2, ⟨(⟨⟨0, 1⟩, ⟨1, 0⟩⟩, 0), ⟨by dsimp only; omega, WI.start, by rw [hr]; rfl⟩, ?_⟩, ?_⟩
  · repeat' (first | apply And.intro | exact True.intro | exact Lf.mk (by with_reducible rfl) | apply Lf.mk)
    all_goals first | rfl | trace_state
  · rintro ⟨⟨⟨a, b⟩, ⟨p, q⟩⟩, i⟩ ⟨k1, k2, k3⟩
    dsimp only at k1 k3
    have w1 := k2.xn; have w2 := k2.xd; have w3 := k2.yn; have w4 := k2.yd; have w5 := k2.bn; have w6 := k2.bd
    dsimp only at w1 w2 w3 w4 w5 w6
    have hg1 := k2.good true
    have hg2 := k2.good false
    repeat' (first | with_reducible apply andAll_cons | with_reducible apply andAll_nil | (with_reducible apply Cf.mk; kernel_rfl) | apply And.intro | intro _ | exact True.intro | apply Lf.mk)
    all_goals (try simp only [Bool.not_eq_true', Bool.not_eq_false', Bool.not_not, decide_eq_true_eq, decide_eq_false_iff_not, beq_iff_eq, bne_iff_ne, beq_eq_false_iff_ne, bne_eq_false_iff_eq, ne_eq, Bool.and_eq_true, Bool.and_eq_false_iff, Bool.or_eq_true, Bool.or_eq_false_iff, Int.toNat_natCast, Nat.zero_add, Int.ofNat_lt, Int.ofNat_le, List.length_cons, List.length_nil, List.drop_zero, List.take_length] at *)
    all_goals first | omega | skip
    all_goals first
      | (have hx : i < s.size := by assumption
         obtain ⟨c, c1, c2⟩ := byteA_at hx
         rw [c1] at k3
         have c3 : byteA s i = 76 ↔ c = 76 := by rw [c2]; exact u8_is (c := c) (n := 76) (by decide)
         have c4 : byteA s i = 82 ↔ c = 82 := by rw [c2]; exact u8_is (c := c) (n := 82) (by decide)
         clear hg1 hg2
         first
           | (have e : c = 76 := c3.1 (by assumption)
              rw [fpG_stop _ _ (b := true) (decide_eq_true e).symm (fp_lbad k2 (by first | (left; assumption) | (right; assumption)))] at k3
              rw [← k3]; done)
           | (have e : c = 82 := c4.1 (by assumption)
              rw [fpG_stop _ _ (b := false) (decide_eq_false (by rw [e]; decide)).symm (fp_rbad k2 (by first | (left; assumption) | (right; assumption)))] at k3
              rw [← k3]; done)
           | (rw [fpG_bad _ _ (fun e => absurd (c3.2 e) (by assumption)) (fun e => absurd (c4.2 e) (by assumption))] at k3
              rw [← k3]; done)
           | (have e : c = 76 := c3.1 (by assumption)
              have hg := fp_lgood k2 (by assumption) (by assumption)
              rw [fpG_step _ _ (.inl e) (b := true) (decide_eq_true e).symm hg] at k3
              refine ⟨(turnP ⟨⟨a, b⟩, ⟨p, q⟩⟩ true, i + 1), ⟨by dsimp only; omega, k2.turn hg, k3⟩, by dsimp only; omega, ?_⟩
              repeat' (first | apply And.intro | exact True.intro | exact Lf.mk (by with_reducible rfl) | apply Lf.mk)
              all_goals rfl)
           | (have e : c = 82 := c4.1 (by assumption)
              have hg := fp_rgood k2 (by assumption) (by assumption)
              rw [fpG_step _ _ (.inr e) (b := false) (decide_eq_false (by rw [e]; decide)).symm hg] at k3
              refine ⟨(turnP ⟨⟨a, b⟩, ⟨p, q⟩⟩ false, i + 1), ⟨by dsimp only; omega, k2.turn hg, k3⟩, by dsimp only; omega, ?_⟩
              repeat' (first | apply And.intro | exact True.intro | exact Lf.mk (by with_reducible rfl) | apply Lf.mk)
              all_goals rfl))
      | (have hx : ¬ i < s.size := by assumption
         have hd : s.data.toList.drop i = [] := List.drop_eq_nil_of_le (by have : s.data.toList.length = s.size := by simp
                                                                           omega)
         rw [hd, fpG_nil] at k3
         rw [← k3]
         first | exact congrArg Prod.fst (lowRt_good k2.goodHere) | exact congrArg Prod.snd (lowRt_good k2.goodHere))
      | skip
    all_goals trace_state
end Go.Vx
