/- slices.Compact at fractions; the reference's putting in; the place of a fraction in a list. -/
import Derived.Test.YtfnfbomnijlhcaaVpSo
import Derived.Test.YtfnfbomnijlhcaaVxK
namespace Go.Vx
open Go Go.Proofs
set_option maxRecDepth 100000
set_option linter.unusedSimpArgs false
set_option linter.unusedVariables false

theorem getA_app_r {α : Type} (d : α) (l m : List α) (i : Nat) (h : l.length ≤ i) : getA d (l ++ m) i = getA d m (i - l.length) := by
  simp only [getA_eq, List.getD_eq_getElem?_getD, List.getElem?_append_right h]
theorem getA_app_l {α : Type} (d : α) (l m : List α) (i : Nat) (h : i < l.length) : getA d (l ++ m) i = getA d l i := by
  simp only [getA_eq, List.getD_eq_getElem?_getD, List.getElem?_append_left h]
theorem getA_drop' {α : Type} (d : α) (l : List α) (n i : Nat) : getA d (l.drop n) i = getA d l (n + i) := by
  simp only [getA_eq, List.getD_eq_getElem?_getD, List.getElem?_drop]

theorem kp_get {l : List Rt} {n i : Nat} (h : (kpL l n).length ≤ i) : getA zR (kpL l n ++ l.drop (kpL l n).length) i = getA zR l i := by
  rw [getA_app_r _ _ _ _ h, getA_drop', show (kpL l n).length + (i - (kpL l n).length) = i by omega]
theorem kp_set {l : List Rt} {n : Nat} (x : Rt) (h : (kpL l n).length < l.length) : (kpL l n ++ l.drop (kpL l n).length).set (kpL l n).length x = (kpL l n ++ [x]) ++ l.drop ((kpL l n).length + 1) := by
  rw [List.drop_eq_getElem_cons h, List.set_append_right _ _ (Nat.le_refl _), Nat.sub_self, List.set_cons_zero, List.append_assoc]
  rfl
theorem eqRt_t {a b : Rt} (h : eqRt a b = true) : a = b := of_decide_eq_true h
theorem eqRt_f {a b : Rt} (h : eqRt a b = false) : a ≠ b := of_decide_eq_false h
theorem toNat_pred {m : Nat} (h : 1 ≤ m) : ((m : Int) - 1).toNat = m - 1 := by omega

noncomputable def s_lib_CompactRat : Sig := ⟨71, [.own 28 .rat], [.list 28 .rat], fun ((l : List Rt), _) => ⟨[], (kpL l l.length, ()), ()⟩⟩
theorem ok_lib_CompactRat : GSpec Try.prog s_lib_CompactRat := by
  refine fn_known tab_ok fol Known.nil (by decide) Try.func71 ?_
  rintro ⟨(l : List Rt), ⟨⟩⟩ ⟨hl, _⟩ _
  have hl : l.length ≤ 9223372036854775807 := hl
  repeat' (first | with_reducible apply andAll_cons | with_reducible apply andAll_nil | (with_reducible apply Cf.mk; kernel_rfl) | apply And.intro | intro _ | exact True.intro | apply Lf.mk)
  all_goals (try simp only [Bool.not_eq_true', Bool.not_eq_false', Bool.not_not, decide_eq_true_eq, decide_eq_false_iff_not, beq_iff_eq, bne_iff_ne, beq_eq_false_iff_ne, bne_eq_false_iff_eq, ne_eq, Bool.and_eq_true, Bool.and_eq_false_iff, Bool.or_eq_true, Bool.or_eq_false_iff, Int.toNat_natCast, Nat.zero_add, Int.ofNat_lt, Int.ofNat_le, List.length_cons, List.length_nil, List.drop_zero, List.take_length] at *)
  all_goals first | omega | skip
  · symm
    show kpL l l.length = l
    rw [kpL_all (Nat.le_refl _) (fun j h1 h2 => by omega), List.take_length]
  · rename_i h2
    have h2 : 2 ≤ l.length := by omega
    refine ⟨Nat, fun k => ⟨[(3, .sc (.num .i64 k))], [100000], []⟩, fun k => (1 ≤ k ∧ k ≤ l.length) ∧ ∀ j, 0 < j → j < k → getA zR l j ≠ getA zR l (j - 1), fun k => l.length - k, ⟨1, ⟨⟨by omega, by omega⟩, fun j h1 h2 => by omega⟩, ?_⟩, ?_⟩
    · repeat' (first | apply And.intro | exact True.intro | exact Lf.mk (by with_reducible rfl) | apply Lf.mk)
      all_goals rfl
    · rintro k ⟨⟨g1, g2⟩, g3⟩
      repeat' (first | with_reducible apply andAll_cons | with_reducible apply andAll_nil | (with_reducible apply Cf.mk; kernel_rfl) | apply And.intro | intro _ | exact True.intro | apply Lf.mk)
      all_goals (try simp only [Bool.not_eq_true', Bool.not_eq_false', Bool.not_not, decide_eq_true_eq, decide_eq_false_iff_not, beq_iff_eq, bne_iff_ne, beq_eq_false_iff_ne, bne_eq_false_iff_eq, ne_eq, Bool.and_eq_true, Bool.and_eq_false_iff, Bool.or_eq_true, Bool.or_eq_false_iff, Int.toNat_natCast, Nat.zero_add, Int.ofNat_lt, Int.ofNat_le, List.length_cons, List.length_nil, List.drop_zero, List.take_length] at *)
      all_goals first | omega | skip
      · rename_i h3 h4
        have hk : (k : Int) - 1 = ((k - 1 : Nat) : Int) := by omega
        rw [hk, Int.toNat_natCast] at h3
        have h3 : getA zR l k = getA zR l (k - 1) := of_decide_eq_true h3
        refine ⟨Nat, fun m => ⟨[(5, .sc (.num .i64 m)), (3, .sc (.num .i64 (kpL l (k + m)).length)), (4, .sc (.vw 100000 k (l.length - k)))], [], [(100000, .row 28 .rat (kpL l (k + m) ++ l.drop (kpL l (k + m)).length))]⟩,
          fun m => (1 ≤ m ∧ k + m ≤ l.length) ∧ (kpL l (k + m)).length < k + m, fun m => l.length - m, ⟨1, ⟨⟨by omega, by omega⟩, ?_⟩, ?_⟩, ?_⟩
        · have := kpL_len l k
          rw [kpL_f (by omega) h3]; omega
        · have e : kpL l (k + 1) = l.take k := by rw [kpL_f (by omega) h3, kpL_all (by omega) g3]
          have e2 : (l.take k).length = k := by rw [List.length_take]; omega
          simp only [e, e2, List.take_append_drop]
          repeat' (first | apply And.intro | exact True.intro | exact Lf.mk (by with_reducible rfl) | apply Lf.mk)
          all_goals first | rfl | omega | trace_state
        · rintro m ⟨⟨q1, q2⟩, q3⟩
          have hlen : (kpL l (k + m) ++ l.drop (kpL l (k + m)).length).length = l.length := by rw [List.length_append, List.length_drop]; omega
          repeat' (first | with_reducible apply andAll_cons | with_reducible apply andAll_nil | (with_reducible apply Cf.mk; kernel_rfl) | apply And.intro | intro _ | exact True.intro | apply Lf.mk)
          all_goals (try simp only [Bool.not_eq_true', Bool.not_eq_false', Bool.not_not, decide_eq_true_eq, decide_eq_false_iff_not, beq_iff_eq, bne_iff_ne, beq_eq_false_iff_ne, bne_eq_false_iff_eq, ne_eq, Bool.and_eq_true, Bool.and_eq_false_iff, Bool.or_eq_true, Bool.or_eq_false_iff, Int.toNat_natCast, Nat.zero_add, Int.ofNat_lt, Int.ofNat_le, List.length_cons, List.length_nil, List.drop_zero, List.take_length] at *)
          all_goals first | omega | skip
          · rename_i h5 h6
            rw [toNat_pred q1] at h6
            have h7 := eqRt_f (a := getA zR (kpL l (k + m) ++ l.drop (kpL l (k + m)).length) (k + m)) (b := getA zR (kpL l (k + m) ++ l.drop (kpL l (k + m)).length) (k + (m - 1))) h6
            rw [kp_get (by omega), kp_get (by omega), show k + (m - 1) = k + m - 1 by omega] at h7
            have h8 := kpL_t (l := l) (m := k + m) (.inr h7)
            have h9 : (kpL l (k + (m + 1))).length = (kpL l (k + m)).length + 1 := by rw [← Nat.add_assoc, h8]; simp
            refine ⟨m + 1, ⟨⟨by omega, by omega⟩, by omega⟩, by omega, ?_⟩
            have h10 : (kpL l (k + m) ++ l.drop (kpL l (k + m)).length).set (kpL l (k + m)).length (getA zR (kpL l (k + m) ++ l.drop (kpL l (k + m)).length) (k + m)) = kpL l (k + (m + 1)) ++ l.drop (kpL l (k + (m + 1))).length := by
              rw [kp_set _ (by omega), kp_get (by omega), ← Nat.add_assoc, h8, List.length_append]; rfl
            repeat' (first | apply And.intro | exact True.intro | exact Lf.mk (by with_reducible rfl) | apply Lf.mk)
            all_goals first | rfl | omega | exact h10 | trace_state
          · rename_i h5 h6
            rw [toNat_pred q1] at h6
            have h7 := eqRt_t (a := getA zR (kpL l (k + m) ++ l.drop (kpL l (k + m)).length) (k + m)) (b := getA zR (kpL l (k + m) ++ l.drop (kpL l (k + m)).length) (k + (m - 1))) h6
            rw [kp_get (by omega), kp_get (by omega), show k + (m - 1) = k + m - 1 by omega] at h7
            have h8 := kpL_f (l := l) (m := k + m) (by omega) h7
            refine ⟨m + 1, ⟨⟨by omega, by omega⟩, by rw [← Nat.add_assoc, h8]; omega⟩, by omega, ?_⟩
            rw [← Nat.add_assoc] 
            simp only [← Nat.add_assoc, h8]
            repeat' (first | apply And.intro | exact True.intro | exact Lf.mk (by with_reducible rfl) | apply Lf.mk)
            all_goals first | rfl | omega | trace_state
          · simp only [List.length_append, List.length_take, List.length_replicate, List.length_drop]; omega
          · have := kpL_pos l (k + m) (by omega); omega
          · rw [Nat.sub_zero]
            have e : k + m = l.length := by omega
            rw [e] at q3 ⊢
            rw [List.append_assoc, List.take_append_of_le_length (by rw [List.length_take]; simp only [List.length_append, List.length_drop]; omega), List.take_take, Nat.min_self, List.take_left' rfl]
      · rename_i h3 h4
        have hk : (k : Int) - 1 = ((k - 1 : Nat) : Int) := by omega
        rw [hk, Int.toNat_natCast] at h3
        have h3 : getA zR l k ≠ getA zR l (k - 1) := of_decide_eq_false h3
        refine ⟨k + 1, ⟨⟨by omega, by omega⟩, fun j h5 h6 => ?_⟩, by omega, ?_⟩
        · by_cases h7 : j = k
          · rw [h7]; exact h3
          · exact g3 j h5 (by omega)
        · repeat' (first | apply And.intro | exact True.intro | exact Lf.mk (by with_reducible rfl) | apply Lf.mk)
          all_goals first | rfl | omega | trace_state
      · rw [kpL_all (Nat.le_refl _) (fun j h1 h2 => g3 j h1 (by omega)), List.take_length]

theorem putL_at : ∀ {l : List Rt} {k : Nat} {x : Rt}, k ≤ l.length → (∀ j, j < k → lessRt (getA zR l j) x = true) → (k < l.length → lessRt (getA zR l k) x = false) → putL l x = if k < l.length ∧ getA zR l k = x then l else l.take k ++ [x] ++ l.drop k
  | [], k, x, h, _, _ => by
    have : k = 0 := by simpa using h
    subst this
    rw [putL_nil]; simp
  | y :: r, 0, x, _, _, h2 => by
    have h3 : lessRt y x = false := h2 (by simp)
    rw [putL_cons, if_neg (by rw [h3]; exact Bool.false_ne_true)]
    have e : getA zR (y :: r) 0 = y := rfl
    rw [e]
    by_cases h : y = x
    · rw [if_pos h, if_pos ⟨by simp, h⟩]
    · rw [if_neg h, if_neg (fun h2 => h h2.2)]; rfl
  | y :: r, k + 1, x, h, h1, h2 => by
    have h3 : lessRt y x = true := h1 0 (by omega)
    rw [putL_cons, if_pos h3, putL_at (k := k) (by simpa using h) (fun j hj => h1 (j + 1) (by omega)) (fun hj => h2 (by simpa using hj))]
    have e : getA zR (y :: r) (k + 1) = getA zR r k := rfl
    rw [e]
    by_cases h4 : k < r.length ∧ getA zR r k = x
    · rw [if_pos h4, if_pos ⟨by simpa using h4.1, h4.2⟩]
    · rw [if_neg h4, if_neg (fun h5 => h4 ⟨by simpa using h5.1, h5.2⟩)]; simp
noncomputable def s_spec_imPut : Sig := ⟨59, [.own 28 .rat, .val .rat], [.list 28 .rat], fun ((l : List Rt), (x : Rt), _) => ⟨[∀ y ∈ l, goodRt y = true, goodRt x = true, l.length ≤ 100000], (putL l x, ()), ()⟩⟩
theorem ok_spec_imPut : GSpec Try.prog s_spec_imPut := by
  refine fn_known tab_ok fol (Known.nil.cons ok_spec_raCmp (by kernel_rfl)) (by decide) Try.func59 ?_
  rintro ⟨(l : List Rt), (x : Rt), ⟨⟩⟩ ⟨hl, _⟩ ⟨h1, h2, h3, _⟩
  have hl : l.length ≤ 9223372036854775807 := hl
  refine ⟨Nat, fun k => ⟨[(5, .sc (.num .i64 k))], [100000, 3], []⟩, fun k => k ≤ l.length ∧ ∀ j, j < k → lessRt (getA zR l j) x = true, fun k => l.length - k, ⟨0, ⟨by omega, fun j h1 => by omega⟩, ?_⟩, ?_⟩
  · repeat' (first | apply And.intro | exact True.intro | exact Lf.mk (by with_reducible rfl) | apply Lf.mk)
    all_goals rfl
  · rintro k ⟨g1, g2⟩
    repeat' (first | with_reducible apply andAll_cons | with_reducible apply andAll_nil | (with_reducible apply Cf.mk; kernel_rfl) | apply And.intro | intro _ | exact True.intro | apply Lf.mk)
    all_goals (try simp only [Bool.not_eq_true', Bool.not_eq_false', Bool.not_not, decide_eq_true_eq, decide_eq_false_iff_not, beq_iff_eq, bne_iff_ne, beq_eq_false_iff_ne, bne_eq_false_iff_eq, ne_eq, Bool.and_eq_true, Bool.and_eq_false_iff, Bool.or_eq_true, Bool.or_eq_false_iff, Int.toNat_natCast, Nat.zero_add, Int.ofNat_lt, Int.ofNat_le, List.length_cons, List.length_nil, List.drop_zero, List.take_length] at *)
    all_goals first | omega | exact h2 | exact h1 _ (getA_mem _ (by assumption)) | skip
    all_goals first | (simp only [List.length_append, List.length_take, List.length_drop, List.length_nil, List.length_cons]; show _ * 16 ≤ _; omega) | skip
    · rename_i h4 h5
      rw [decide_eq_true h4, cond_true, cmp_less] at h5
      refine ⟨k + 1, ⟨by omega, fun j hj => ?_⟩, by omega, ?_⟩
      · by_cases h7 : j = k
        · rw [h7]; exact h5
        · exact g2 j (by omega)
      · repeat' (first | apply And.intro | exact True.intro | exact Lf.mk (by with_reducible rfl) | apply Lf.mk)
        all_goals first | rfl | omega | trace_state
    · rename_i h4 h5 h6 h7
      rw [decide_eq_true h4, cond_true, cmp_less] at h5
      rw [decide_eq_true h4, cond_true] at h7
      rw [putL_at g1 g2 (fun _ => h5), if_pos ⟨h4, eqRt_t (a := getA zR l k) (b := x) h7⟩]
    · rename_i h4 h5 h6 h7
      rw [decide_eq_true h4, cond_true, cmp_less] at h5
      rw [decide_eq_true h4, cond_true] at h7
      rw [putL_at g1 g2 (fun _ => h5), if_neg (fun h => eqRt_f (a := getA zR l k) (b := x) h7 h.2), List.nil_append, Nat.sub_zero, List.take_of_length_le (l := l.drop k) (by rw [List.length_drop]; omega)]
    · exact absurd ‹false = true› Bool.false_ne_true
    · exact absurd ‹false = true› Bool.false_ne_true
    · have h7 : ¬ k < l.length := by assumption
      rw [putL_at g1 g2 (fun h => (h7 h).elim), if_neg (fun h => h7 h.1), List.nil_append, Nat.sub_zero, List.take_of_length_le (l := l.drop k) (by rw [List.length_drop]; omega)]

noncomputable def s_lib_IndexRat : Sig := ⟨36, [.list .rat, .val .rat], [.val NI], fun ((l : List Rt), (x : Rt), _) => ⟨[], (idxF (fun y => eqRt x y) l, ()), ()⟩⟩
theorem ok_lib_IndexRat : GSpec Try.prog s_lib_IndexRat := by
  refine fn_known tab_ok fol Known.nil (by decide) Try.func36 ?_
  rintro ⟨(l : List Rt), (x : Rt), ⟨⟩⟩ ⟨hl, _⟩ _
  have hl : l.length ≤ 9223372036854775807 := hl
  refine ⟨Nat, fun i => ⟨[(8, .sc (.num .i64 i))], [100000, 3], []⟩, fun i => i ≤ l.length ∧ (l.take i).any (fun y => eqRt x y) = false, fun i => l.length - i, ⟨0, ⟨Nat.zero_le _, rfl⟩, ?_⟩, ?_⟩
  · repeat' (first | apply And.intro | exact True.intro | exact Lf.mk (by with_reducible rfl) | apply Lf.mk)
    all_goals rfl
  · rintro i ⟨g1, g2⟩
    repeat' (first | with_reducible apply andAll_cons | with_reducible apply andAll_nil | (with_reducible apply Cf.mk; kernel_rfl) | apply And.intro | intro _ | exact True.intro | apply Lf.mk)
    all_goals (try simp only [Bool.not_eq_true', Bool.not_eq_false', Bool.not_not, decide_eq_true_eq, decide_eq_false_iff_not, beq_iff_eq, bne_iff_ne, beq_eq_false_iff_ne, bne_eq_false_iff_eq, ne_eq, Bool.and_eq_true, Bool.and_eq_false_iff, Bool.or_eq_true, Bool.or_eq_false_iff, Int.toNat_natCast, Nat.zero_add, Int.ofNat_lt, Int.ofNat_le, List.length_cons, List.length_nil, List.drop_zero, List.take_length] at *)
    all_goals first | omega | skip
    · exact (idxF_hit zR (by assumption) g2 (by assumption)).symm
    · refine ⟨i + 1, ⟨by omega, take_all_false zR (by assumption) g2 (by assumption)⟩, by omega, ?_⟩
      repeat' (first | apply And.intro | exact True.intro | exact Lf.mk (by with_reducible rfl) | apply Lf.mk)
      all_goals (rw [Int.natCast_add]; rfl)
    · rename_i h3
      rw [List.take_of_length_le (by omega)] at g2
      exact (idxF_none g2).symm
end Go.Vx
