/- The restrictive intervals between cuts: the reference's function. -/
import Derived.Test.YtiklhpmlchalkaaVxAm
namespace Go.Vx
open Go Go.Proofs
set_option maxRecDepth 100000
set_option linter.unusedSimpArgs false
set_option linter.unusedVariables false
set_option maxHeartbeats 20000000 in
theorem ok_spec_RestrictiveAmong : GSpec Try.prog s_spec_RestrictiveAmong := by
  refine fn_known tab_ok fol (((((Known.nil.cons ok_spec_imGood (by kernel_rfl)).cons ok_spec_mkGood (by kernel_rfl)).cons ok_spec_rnSteps (by kernel_rfl)).cons ok_spec_rnSingle (by kernel_rfl)).cons ok_spec_rnRestrictive (by kernel_rfl)) (by decide) Try.func40 ?_
  rintro ⟨(f : List Pt), (xs : List Rt), (n : Int), ⟨⟩⟩ - -
  repeat' (first | with_reducible apply andAll_cons | with_reducible apply andAll_nil | (with_reducible apply Cf.mk; kernel_rfl) | apply And.intro | intro _ | exact True.intro | apply Lf.mk)
  all_goals (try simp only [Bool.not_eq_true', Bool.not_eq_false', Bool.not_not, decide_eq_true_eq, decide_eq_false_iff_not, beq_iff_eq, bne_iff_ne, beq_eq_false_iff_ne, bne_eq_false_iff_eq, ne_eq, Bool.and_eq_true, Bool.and_eq_false_iff, Bool.or_eq_true, Bool.or_eq_false_iff, Int.toNat_natCast, Nat.zero_add, Int.ofNat_lt, Int.ofNat_le, List.length_cons, List.length_nil, List.drop_zero, List.take_length] at *)
  all_goals first
    | (rw [am_f1 (by assumption)]; done)
    | (rw [am_f2 (by assumption)]; done)
    | (rw [am_f3 (by assumption)]; done)
    | skip
  rename_i hm hp hn
  obtain ⟨p1, p2, p3, p4, p5⟩ := part_iff.1 hp
  have hn2 := of_decide_eq_true hn
  refine ⟨Nat × List Iv, fun x => ⟨[(33, .sc (.num .i64 x.1)), (8, .sc (.own 7777777))], [100000, 100001], [(7777777, .row iT .iv x.2)]⟩, fun x => x.1 ≤ xs.length ∧ x.2.length ≤ 9 * x.1 ∧ amO f n.toNat (xs.drop x.1) x.2 = amO f n.toNat xs [], fun x => xs.length - x.1, ⟨(0, []), ⟨Nat.zero_le _, Nat.zero_le _, rfl⟩, ?_⟩, ?_⟩
  · repeat' (first | apply And.intro | exact True.intro | exact Lf.mk (by with_reducible rfl) | apply Lf.mk)
    all_goals first | rfl | simp
  · rintro ⟨k, acc⟩ ⟨g1, g2, g3⟩
    dsimp only at g1 g2 g3
    repeat' (first | with_reducible apply andAll_cons | with_reducible apply andAll_nil | (with_reducible apply Cf.mk; kernel_rfl) | apply And.intro | intro _ | exact True.intro | apply Lf.mk)
    all_goals (try simp only [Bool.not_eq_true', Bool.not_eq_false', Bool.not_not, decide_eq_true_eq, decide_eq_false_iff_not, beq_iff_eq, bne_iff_ne, beq_eq_false_iff_ne, bne_eq_false_iff_eq, ne_eq, Bool.and_eq_true, Bool.and_eq_false_iff, Bool.or_eq_true, Bool.or_eq_false_iff, Int.toNat_natCast, Nat.zero_add, Int.ofNat_lt, Int.ofNat_le, List.length_cons, List.length_nil, List.drop_zero, List.take_length] at *)
    all_goals first | omega | skip
    · rename_i hk
      refine ⟨Nat × List Iv, fun x => ⟨[(43, .sc (.num .i64 x.1)), (8, .sc (.own 8888888))], [100000, 100001, 10], [(8888888, .row iT .iv x.2)]⟩, fun x => k + 1 + x.1 ≤ xs.length ∧ x.2.length ≤ 9 * k + x.1 ∧ (amI f n.toNat (getA zR xs k) (xs.drop (k + 1 + x.1)) x.2).bind (amO f n.toNat (xs.drop (k + 1))) = amO f n.toNat xs [], fun x => xs.length - x.1, ⟨(0, acc), ⟨by dsimp only; omega, by dsimp only; omega, by rw [← g3, drop_cons hk]; rfl⟩, ?_⟩, ?_⟩
      · repeat' (first | apply And.intro | exact True.intro | exact Lf.mk (by with_reducible rfl) | apply Lf.mk)
        all_goals first | rfl | simp
      · rintro ⟨q, acc⟩ ⟨e1, e2, e3⟩
        dsimp only at e1 e2 e3
        repeat' (first | with_reducible apply andAll_cons | with_reducible apply andAll_nil | (with_reducible apply Cf.mk; kernel_rfl) | apply And.intro | intro _ | exact True.intro | apply Lf.mk)
        all_goals (try simp only [Bool.not_eq_true', Bool.not_eq_false', Bool.not_not, decide_eq_true_eq, decide_eq_false_iff_not, beq_iff_eq, bne_iff_ne, beq_eq_false_iff_ne, bne_eq_false_iff_eq, ne_eq, Bool.and_eq_true, Bool.and_eq_false_iff, Bool.or_eq_true, Bool.or_eq_false_iff, Int.toNat_natCast, Nat.zero_add, Int.ofNat_lt, Int.ofNat_le, List.length_cons, List.length_nil, List.drop_zero, List.take_length] at *)
        all_goals (try simp only [succ_nat] at *)
        all_goals first
          | omega
          | assumption
          | exact part_iv hp (by omega) (by omega)
          | (rw [am_n hm hp hn (am1 (by omega) (by assumption) e3)]; done)
          | (have j0 := code0 (by assumption) (by assumption)
             obtain ⟨j1, j2, j3, j4⟩ := (imgs_inv hm (part_iv hp (i := k) (j := k + 1 + q) (by omega) (by omega)) n.toNat).1 j0
             first | exact len2 j1 (by omega) | exact len13 j1 (by omega) | exact j3 _ (by assumption))
          | (show (_ + 1) * 32 ≤ 140737488355328; omega)
          | skip
        · rename_i c0 c1 c2
          have hq : k + 1 + q < xs.length := by omega
          refine ⟨(q + 1, acc), ⟨by dsimp only; omega, by dsimp only; omega, am2 hq c2 e3⟩, by dsimp only; omega, ?_⟩
          repeat' (first | apply And.intro | exact True.intro | exact Lf.mk (by with_reducible rfl) | apply Lf.mk)
          all_goals first | rfl | (rw [Int.natCast_add]; rfl)
        · exact retOk_iff.2 ⟨hm, part_iv hp (i := k) (j := k + 1 + q) (by omega) (by omega), hn2.1, hn2.2⟩
        · rename_i c0 c1 c2 c3
          have hq : k + 1 + q < xs.length := by omega
          have j0 := code0 c1 c2
          refine ⟨(q + 1, acc ++ [⟨getA zR xs k, getA zR xs (k + 1 + q)⟩]), ⟨by dsimp only; omega, by simp only [List.length_append, List.length_singleton]; omega, am3 hq j0 ((congrArg Prod.fst (rr_t j0)).symm.trans c3) e3⟩, by dsimp only; omega, ?_⟩
          repeat' (first | apply And.intro | exact True.intro | exact Lf.mk (by with_reducible rfl) | apply Lf.mk)
          all_goals first | rfl | (rw [Int.natCast_add]; rfl)
        · rename_i c0 c1 c2 c3
          have hq : k + 1 + q < xs.length := by omega
          have j0 := code0 c1 c2
          refine ⟨(q + 1, acc), ⟨by dsimp only; omega, by dsimp only; omega, am4 hq j0 ((congrArg Prod.fst (rr_t j0)).symm.trans c3) e3⟩, by dsimp only; omega, ?_⟩
          repeat' (first | apply And.intro | exact True.intro | exact Lf.mk (by with_reducible rfl) | apply Lf.mk)
          all_goals first | rfl | (rw [Int.natCast_add]; rfl)
        · rename_i c0
          refine ⟨(k + 1, acc), ⟨by dsimp only; omega, by dsimp only; omega, am5 (by omega) e3⟩, by dsimp only; omega, ?_⟩
          repeat' (first | apply And.intro | exact True.intro | exact Lf.mk (by with_reducible rfl) | apply Lf.mk)
          all_goals first | rfl | (rw [Int.natCast_add]; rfl)
    · rw [am_t hm hp hn (am6 (by assumption) g3)]
    · rw [am_t hm hp hn (am6 (by assumption) g3)]
theorem amI_len (f : List Pt) (n : Nat) (a : Rt) : ∀ (bs : List Rt) (acc l : List Iv), amI f n a bs acc = some l → l.length ≤ acc.length + bs.length
  | [], acc, l, h => by cases h; exact Nat.le_refl _
  | b :: r, acc, l, h => by
    rcases imgs_code f ⟨a, b⟩ n with c | c | c
    · cases c2 : restB (imgs f ⟨a, b⟩ n).1 n with
      | true =>
        rw [amI_t c c2] at h
        have := amI_len f n a r _ l h
        simp only [List.length_append, List.length_cons, List.length_nil] at *; omega
      | false =>
        rw [amI_f c c2] at h
        have := amI_len f n a r _ l h
        simp only [List.length_cons] at *; omega
    · rw [amI_1 c] at h; cases h
    · rw [amI_2 c] at h
      have := amI_len f n a r _ l h
      simp only [List.length_cons] at *; omega
theorem amO_len (f : List Pt) (n : Nat) : ∀ (us : List Rt) (acc l : List Iv), amO f n us acc = some l → l.length ≤ acc.length + us.length * us.length
  | [], acc, l, h => by cases h; simp
  | a :: r, acc, l, h => by
    rw [amO] at h
    cases h1 : amI f n a r acc with
    | none => rw [h1] at h; cases h
    | some acc' =>
      rw [h1] at h
      have h2 := amI_len f n a r acc acc' h1
      have h3 := amO_len f n r acc' l h
      rw [List.length_cons, Nat.add_mul, Nat.mul_add]; omega
theorem am_len (f : List Pt) (xs : List Rt) (n : Int) : (amRes f xs n).1.length ≤ 81 := by
  cases h : amOk f xs n with
  | false => unfold amRes; rw [h]; exact Nat.zero_le _
  | true =>
    have hp : partOk xs = true := by
      unfold amOk at h; rw [Bool.and_eq_true, Bool.and_eq_true] at h; exact h.2.1
    have h9 := (part_iff.1 hp).1
    unfold amRes; rw [h]
    cases h1 : amO f n.toNat xs [] with
    | none => exact Nat.zero_le _
    | some l =>
      have h2 := amO_len f n.toNat xs [] l h1
      have h3 := Nat.mul_le_mul h9.2 h9.2
      simp only [List.length_nil] at h2
      dsimp only; omega
end Go.Vx
