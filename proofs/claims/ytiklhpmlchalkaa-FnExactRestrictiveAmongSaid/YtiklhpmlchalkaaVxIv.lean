/- Intervals: the program's functions and the reference's. -/
import Derived.Test.YtiklhpmlchalkaaVpIm
import Derived.Test.YtiklhpmlchalkaaVxMapB
namespace Go.Vx
open Go Go.Proofs
set_option maxRecDepth 100000
set_option linter.unusedSimpArgs false
set_option linter.unusedVariables false

noncomputable def s_impl_lesser : Sig := ⟨106, [.val .rat, .val .rat], [.val .rat], fun ((a : Rt), (b : Rt), _) => ⟨[goodRt a = true, goodRt b = true], (lsR a b, ()), ()⟩⟩
noncomputable def s_impl_greater : Sig := ⟨105, [.val .rat, .val .rat], [.val .rat], fun ((a : Rt), (b : Rt), _) => ⟨[goodRt a = true, goodRt b = true], (grR a b, ()), ()⟩⟩
noncomputable def s_spec_ivGreater : Sig := ⟨70, [.val .rat, .val .rat], [.val .rat], fun ((a : Rt), (b : Rt), _) => ⟨[goodRt a = true, goodRt b = true], (grR a b, ()), ()⟩⟩
noncomputable def s_spec_ivLess : Sig := ⟨71, [.val .rat, .val .rat], [.val .rat], fun ((a : Rt), (b : Rt), _) => ⟨[goodRt a = true, goodRt b = true], (lsR a b, ()), ()⟩⟩
theorem less_t {a b : Rt} (h : lessRt a b = true) : ltR a b := of_decide_eq_true h
theorem less_f {a b : Rt} (h : lessRt a b = false) : ¬ ltR a b := of_decide_eq_false h
theorem ok_impl_lesser : GSpec Try.prog s_impl_lesser := by
  refine fn_known tab_ok fol (Known.nil.cons ok_impl_less (by kernel_rfl)) (by decide) Try.func106 ?_
  rintro ⟨⟨(n : Int), (d : Int)⟩, ⟨(m : Int), (e : Int)⟩, ⟨⟩⟩ - ⟨h1, h2, _⟩
  repeat' (first | with_reducible apply andAll_cons | with_reducible apply andAll_nil | (with_reducible apply Cf.mk; kernel_rfl) | apply And.intro | intro _ | exact True.intro | apply Lf.mk)
  all_goals (try simp only [Bool.not_eq_true', Bool.not_eq_false', Bool.not_not, decide_eq_true_eq, decide_eq_false_iff_not, beq_iff_eq, bne_iff_ne, beq_eq_false_iff_ne, bne_eq_false_iff_eq, ne_eq, Bool.and_eq_true, Bool.and_eq_false_iff, Bool.or_eq_true, Bool.or_eq_false_iff, Int.toNat_natCast, Nat.zero_add, Int.ofNat_lt, Int.ofNat_le, List.length_cons, List.length_nil, List.drop_zero, List.take_length] at *)
  all_goals first | assumption | exact (lsR_alt2 (less_t (by assumption))).symm | exact (lsR_alt h1 h2 (less_f (by assumption))).symm
theorem ok_impl_greater : GSpec Try.prog s_impl_greater := by
  refine fn_known tab_ok fol (Known.nil.cons ok_impl_less (by kernel_rfl)) (by decide) Try.func105 ?_
  rintro ⟨⟨(n : Int), (d : Int)⟩, ⟨(m : Int), (e : Int)⟩, ⟨⟩⟩ - ⟨h1, h2, _⟩
  repeat' (first | with_reducible apply andAll_cons | with_reducible apply andAll_nil | (with_reducible apply Cf.mk; kernel_rfl) | apply And.intro | intro _ | exact True.intro | apply Lf.mk)
  all_goals (try simp only [Bool.not_eq_true', Bool.not_eq_false', Bool.not_not, decide_eq_true_eq, decide_eq_false_iff_not, beq_iff_eq, bne_iff_ne, beq_eq_false_iff_ne, bne_eq_false_iff_eq, ne_eq, Bool.and_eq_true, Bool.and_eq_false_iff, Bool.or_eq_true, Bool.or_eq_false_iff, Int.toNat_natCast, Nat.zero_add, Int.ofNat_lt, Int.ofNat_le, List.length_cons, List.length_nil, List.drop_zero, List.take_length] at *)
  all_goals first | assumption | exact (grR_t (less_t (by assumption))).symm | exact (grR_f (less_f (by assumption))).symm
theorem ok_spec_ivGreater : GSpec Try.prog s_spec_ivGreater := by
  refine fn_known tab_ok fol (Known.nil.cons ok_spec_raCmp (by kernel_rfl)) (by decide) Try.func70 ?_
  rintro ⟨⟨(n : Int), (d : Int)⟩, ⟨(m : Int), (e : Int)⟩, ⟨⟩⟩ - ⟨h1, h2, _⟩
  repeat' (first | with_reducible apply andAll_cons | with_reducible apply andAll_nil | (with_reducible apply Cf.mk; kernel_rfl) | apply And.intro | intro _ | exact True.intro | apply Lf.mk)
  all_goals (try simp only [Bool.not_eq_true', Bool.not_eq_false', Bool.not_not, decide_eq_true_eq, decide_eq_false_iff_not, beq_iff_eq, bne_iff_ne, beq_eq_false_iff_ne, bne_eq_false_iff_eq, ne_eq, Bool.and_eq_true, Bool.and_eq_false_iff, Bool.or_eq_true, Bool.or_eq_false_iff, Int.toNat_natCast, Nat.zero_add, Int.ofNat_lt, Int.ofNat_le, List.length_cons, List.length_nil, List.drop_zero, List.take_length] at *)
  all_goals first | assumption | exact (grR_t (cmpRt_neg.1 (by assumption))).symm | exact (grR_f (fun h => (by assumption : ¬ cmpRt _ _ < 0) (cmpRt_neg.2 h))).symm
theorem ok_spec_ivLess : GSpec Try.prog s_spec_ivLess := by
  refine fn_known tab_ok fol (Known.nil.cons ok_spec_raCmp (by kernel_rfl)) (by decide) Try.func71 ?_
  rintro ⟨⟨(n : Int), (d : Int)⟩, ⟨(m : Int), (e : Int)⟩, ⟨⟩⟩ - ⟨h1, h2, _⟩
  repeat' (first | with_reducible apply andAll_cons | with_reducible apply andAll_nil | (with_reducible apply Cf.mk; kernel_rfl) | apply And.intro | intro _ | exact True.intro | apply Lf.mk)
  all_goals (try simp only [Bool.not_eq_true', Bool.not_eq_false', Bool.not_not, decide_eq_true_eq, decide_eq_false_iff_not, beq_iff_eq, bne_iff_ne, beq_eq_false_iff_ne, bne_eq_false_iff_eq, ne_eq, Bool.and_eq_true, Bool.and_eq_false_iff, Bool.or_eq_true, Bool.or_eq_false_iff, Int.toNat_natCast, Nat.zero_add, Int.ofNat_lt, Int.ofNat_le, List.length_cons, List.length_nil, List.drop_zero, List.take_length] at *)
  all_goals first | assumption | exact (lsR_t (cmpRt_neg.1 (by assumption))).symm | exact (lsR_f (fun h => (by assumption : ¬ cmpRt _ _ < 0) (cmpRt_neg.2 h))).symm
theorem cmp_lt_less (a b : Rt) : decide (cmpRt a b < 0) = lessRt a b := decide_eq_decide.2 cmpRt_neg
theorem cmpRt_pos {a b : Rt} : 0 < cmpRt a b ↔ ltR b a := by
  have h := cmpRt_swap a b
  have h2 := @cmpRt_neg b a
  constructor
  · intro h3; exact h2.1 (by omega)
  · intro h3; have := h2.2 h3; omega
theorem cmp_le_iff {a b : Rt} : cmpRt a b ≤ 0 ↔ lessRt b a = false := by
  have h := @cmpRt_pos a b
  constructor
  · intro h2; exact decide_eq_false (fun h3 => by have := h.2 h3; omega)
  · intro h2; have h3 : ¬ ltR b a := of_decide_eq_false h2
    rcases Int.lt_or_le 0 (cmpRt a b) with h4 | h4
    · exact (h3 (h.1 h4)).elim
    · exact h4
theorem cmp_le_less (a b : Rt) : decide (cmpRt a b ≤ 0) = !lessRt b a := by
  rw [Bool.eq_iff_iff, decide_eq_true_eq, cmp_le_iff]; simp
theorem cmp_gt_iff {a b : Rt} : 0 < cmpRt a b ↔ lessRt b a = true := by
  rw [cmpRt_pos]; exact ⟨fun h => decide_eq_true h, fun h => of_decide_eq_true h⟩
theorem cmp_lt_iff {a b : Rt} : cmpRt a b < 0 ↔ lessRt a b = true := by
  rw [cmpRt_neg]; exact ⟨fun h => decide_eq_true h, fun h => of_decide_eq_true h⟩
theorem less_iff {a b : Rt} : lessRt a b = true ↔ ltR a b := ⟨fun h => of_decide_eq_true h, fun h => decide_eq_true h⟩
theorem all2 {α : Type} {p : α → Bool} {a b : α} (h : [a, b].all p = true) : p a = true ∧ p b = true := by simpa using h
noncomputable def s_impl_isInterval : Sig := ⟨50, [.val .iv], [.val .bool], fun ((i : Iv), _) => ⟨[], (ivOk i, ()), ()⟩⟩
noncomputable def s_spec_ivGood : Sig := ⟨45, [.val .iv], [.val .bool], fun ((i : Iv), _) => ⟨[], (ivOk i, ()), ()⟩⟩
theorem ok_impl_isInterval : GSpec Try.prog s_impl_isInterval := by
  refine fn_known tab_ok fol ((Known.nil.cons ok_impl_areUnits (by kernel_rfl)).cons ok_impl_less (by kernel_rfl)) (by decide) Try.func50 ?_
  rintro ⟨⟨⟨(n : Int), (d : Int)⟩, ⟨(m : Int), (e : Int)⟩⟩, ⟨⟩⟩ - _
  repeat' (first | with_reducible apply andAll_cons | with_reducible apply andAll_nil | (with_reducible apply Cf.mk; kernel_rfl) | apply And.intro | intro _ | exact True.intro | apply Lf.mk)
  all_goals (try simp only [Bool.not_eq_true', Bool.not_eq_false', Bool.not_not, decide_eq_true_eq, decide_eq_false_iff_not, beq_iff_eq, bne_iff_ne, beq_eq_false_iff_ne, bne_eq_false_iff_eq, ne_eq, Bool.and_eq_true, Bool.and_eq_false_iff, Bool.or_eq_true, Bool.or_eq_false_iff, Int.toNat_natCast, Nat.zero_add, Int.ofNat_lt, Int.ofNat_le, List.length_cons, List.length_nil, List.drop_zero, List.take_length] at *)
  all_goals first | exact unit_good (by assumption) | exact unit_good (all2 (by assumption)).1 | exact unit_good (all2 (by assumption)).2 | (simp_all [ivOk, cmp_lt_less, cmp_le_less, cmp_le_iff, cmp_lt_iff]; done) | skip
theorem ok_spec_ivGood : GSpec Try.prog s_spec_ivGood := by
  refine fn_known tab_ok fol ((Known.nil.cons ok_spec_raUnit (by kernel_rfl)).cons ok_spec_raCmp (by kernel_rfl)) (by decide) Try.func45 ?_
  rintro ⟨⟨⟨(n : Int), (d : Int)⟩, ⟨(m : Int), (e : Int)⟩⟩, ⟨⟩⟩ - _
  repeat' (first | with_reducible apply andAll_cons | with_reducible apply andAll_nil | (with_reducible apply Cf.mk; kernel_rfl) | apply And.intro | intro _ | exact True.intro | apply Lf.mk)
  all_goals (try simp only [Bool.not_eq_true', Bool.not_eq_false', Bool.not_not, decide_eq_true_eq, decide_eq_false_iff_not, beq_iff_eq, bne_iff_ne, beq_eq_false_iff_ne, bne_eq_false_iff_eq, ne_eq, Bool.and_eq_true, Bool.and_eq_false_iff, Bool.or_eq_true, Bool.or_eq_false_iff, Int.toNat_natCast, Nat.zero_add, Int.ofNat_lt, Int.ofNat_le, List.length_cons, List.length_nil, List.drop_zero, List.take_length] at *)
  all_goals first | exact unit_good (by assumption) | (simp_all [ivOk, cmp_lt_less, cmp_le_less, cmp_le_iff, cmp_lt_iff]; done) | skip
noncomputable def hasR (i : Iv) (x : Rt) : Bool := !lessRt x i.a && !lessRt i.b x
noncomputable def s_impl_isIn : Sig := ⟨57, [.val .iv, .val .rat], [.val .bool], fun ((i : Iv), (x : Rt), _) => ⟨[ivOk i = true, goodRt x = true], (hasR i x, ()), ()⟩⟩
theorem ok_impl_isIn : GSpec Try.prog s_impl_isIn := by
  refine fn_known tab_ok fol (Known.nil.cons ok_impl_less (by kernel_rfl)) (by decide) Try.func57 ?_
  rintro ⟨⟨⟨(n : Int), (d : Int)⟩, ⟨(m : Int), (e : Int)⟩⟩, ⟨(n' : Int), (d' : Int)⟩, ⟨⟩⟩ - ⟨h1, h2, _⟩
  obtain ⟨u1, u2, u3⟩ := ivOk_iff.1 h1
  repeat' (first | with_reducible apply andAll_cons | with_reducible apply andAll_nil | (with_reducible apply Cf.mk; kernel_rfl) | apply And.intro | intro _ | exact True.intro | apply Lf.mk)
  all_goals (try simp only [Bool.not_eq_true', Bool.not_eq_false', Bool.not_not, decide_eq_true_eq, decide_eq_false_iff_not, beq_iff_eq, bne_iff_ne, beq_eq_false_iff_ne, bne_eq_false_iff_eq, ne_eq, Bool.and_eq_true, Bool.and_eq_false_iff, Bool.or_eq_true, Bool.or_eq_false_iff, Int.toNat_natCast, Nat.zero_add, Int.ofNat_lt, Int.ofNat_le, List.length_cons, List.length_nil, List.drop_zero, List.take_length] at *)
  all_goals first | assumption | exact unit_good (by assumption) | (simp_all [hasR, cmp_lt_less, cmp_le_less, cmp_le_iff, cmp_lt_iff]; done) | skip
noncomputable def s_spec_rnHas : Sig := ⟨55, [.val .iv, .val .rat], [.val .bool], fun ((i : Iv), (x : Rt), _) => ⟨[ivOk i = true, goodRt x = true], (hasR i x, ()), ()⟩⟩
theorem ok_spec_rnHas : GSpec Try.prog s_spec_rnHas := by
  refine fn_known tab_ok fol (Known.nil.cons ok_spec_raCmp (by kernel_rfl)) (by decide) Try.func55 ?_
  rintro ⟨⟨⟨(n : Int), (d : Int)⟩, ⟨(m : Int), (e : Int)⟩⟩, ⟨(n' : Int), (d' : Int)⟩, ⟨⟩⟩ - ⟨h1, h2, _⟩
  obtain ⟨u1, u2, u3⟩ := ivOk_iff.1 h1
  repeat' (first | with_reducible apply andAll_cons | with_reducible apply andAll_nil | (with_reducible apply Cf.mk; kernel_rfl) | apply And.intro | intro _ | exact True.intro | apply Lf.mk)
  all_goals (try simp only [Bool.not_eq_true', Bool.not_eq_false', Bool.not_not, decide_eq_true_eq, decide_eq_false_iff_not, beq_iff_eq, bne_iff_ne, beq_eq_false_iff_ne, bne_eq_false_iff_eq, ne_eq, Bool.and_eq_true, Bool.and_eq_false_iff, Bool.or_eq_true, Bool.or_eq_false_iff, Int.toNat_natCast, Nat.zero_add, Int.ofNat_lt, Int.ofNat_le, List.length_cons, List.length_nil, List.drop_zero, List.take_length] at *)
  all_goals first | assumption | exact unit_good (by assumption) | (simp_all [hasR, cmp_lt_less, cmp_le_less, cmp_le_iff, cmp_lt_iff]; done) | skip
end Go.Vx
