/- Mediants and continued fractions: the program's functions and the reference's return the same. -/
import Derived.Test.YtfnfbomnijlhcaaVxB
import Derived.Test.YtfnfbomnijlhcaaVxC
import Derived.Test.YtfnfbomnijlhcaaVxL
namespace Go.Vx
open Go Go.Proofs
set_option maxRecDepth 100000
set_option linter.unusedSimpArgs false
set_option linter.unusedVariables false

noncomputable def medRt (a b : Rt) : Rt × Bool := match risingRt a b && decide (0 ≤ a.num) with
  | true => lowRt (a.num + b.num) (a.den + b.den)
  | false => (⟨0, 0⟩, false)
theorem medRt_t {a b : Rt} (h : risingRt a b = true) (h2 : 0 ≤ a.num) : medRt a b = lowRt (a.num + b.num) (a.den + b.den) := by
  unfold medRt; rw [h, decide_eq_true h2]; rfl
theorem medRt_f {a b : Rt} (h : risingRt a b = false) : medRt a b = (⟨0, 0⟩, false) := by
  unfold medRt; rw [h]; rfl
theorem medRt_f2 {a b : Rt} (h : a.num < 0) : medRt a b = (⟨0, 0⟩, false) := by
  unfold medRt; rw [decide_eq_false (by omega : ¬ 0 ≤ a.num), Bool.and_false]
noncomputable def s_spec_MediantOf : Sig := ⟨12, [.val .rat, .val .rat], [.val .rat, .val .bool], fun ((a : Rt), (b : Rt), _) => ⟨[], ((medRt a b).1, (medRt a b).2, ()), ()⟩⟩
noncomputable def s_impl_MediantOf : Sig := ⟨11, [.val .rat, .val .rat], [.val .rat, .val .bool], fun ((a : Rt), (b : Rt), _) => ⟨[], ((medRt a b).1, (medRt a b).2, ()), ()⟩⟩

theorem ok_spec_MediantOf : GSpec Try.prog s_spec_MediantOf := by
  refine fn_known tab_ok fol ((Known.nil.cons ok_spec_faRising (by kernel_rfl)).cons ok_spec_raMake (by kernel_rfl)) (by decide) Try.func12 ?_
  rintro ⟨⟨(n : Int), (d : Int)⟩, ⟨(m : Int), (e : Int)⟩, ⟨⟩⟩ hl _
  cases hr : risingRt ⟨n, d⟩ ⟨m, e⟩
  · repeat' (first | with_reducible apply andAll_cons | with_reducible apply andAll_nil | (with_reducible apply Cf.mk; kernel_rfl) | apply And.intro | intro _ | exact True.intro | apply Lf.mk)
    all_goals first | simp_all; done | skip
    all_goals (rw [medRt_f hr])
  · have hg := rising_good hr
    rw [goodRt_iff, goodRt_iff] at hg
    dsimp only at hg
    repeat' (first | with_reducible apply andAll_cons | with_reducible apply andAll_nil | (with_reducible apply Cf.mk; kernel_rfl) | apply And.intro | intro _ | exact True.intro | apply Lf.mk)
    all_goals (try simp only [Bool.not_eq_true', Bool.not_eq_false', Bool.not_not, decide_eq_true_eq, decide_eq_false_iff_not, beq_iff_eq, bne_iff_ne, beq_eq_false_iff_ne, bne_eq_false_iff_eq, ne_eq, Bool.and_eq_true, Bool.and_eq_false_iff, Bool.or_eq_true, Bool.or_eq_false_iff, Int.toNat_natCast, Nat.zero_add, Int.ofNat_lt, Int.ofNat_le, List.length_cons, List.length_nil, List.drop_zero, List.take_length] at *)
    all_goals first | omega | simp_all; done | skip
    all_goals first | rw [medRt_f2 (by assumption)] | rw [medRt_t hr (by show 0 ≤ n; omega)]

theorem ok_impl_MediantOf : GSpec Try.prog s_impl_MediantOf := by
  refine fn_known tab_ok fol (((Known.nil.cons ok_impl_areRats (by kernel_rfl)).cons ok_impl_less (by kernel_rfl)).cons ok_impl_lowest (by kernel_rfl)) (by decide) Try.func11 ?_
  rintro ⟨⟨(n : Int), (d : Int)⟩, ⟨(m : Int), (e : Int)⟩, ⟨⟩⟩ hl _
  cases h1 : goodRt ⟨n, d⟩ <;> cases h2 : goodRt ⟨m, e⟩
  rotate_right
  · have hg := And.intro h1 h2
    rw [goodRt_iff, goodRt_iff] at hg
    dsimp only at hg
    have hr : risingRt ⟨n, d⟩ ⟨m, e⟩ = lessRt ⟨n, d⟩ ⟨m, e⟩ := by simp [risingRt, h1, h2]
    repeat' (first | with_reducible apply andAll_cons | with_reducible apply andAll_nil | (with_reducible apply Cf.mk; kernel_rfl) | apply And.intro | intro _ | exact True.intro | apply Lf.mk)
    all_goals (try simp only [Bool.not_eq_true', Bool.not_eq_false', Bool.not_not, decide_eq_true_eq, decide_eq_false_iff_not, beq_iff_eq, bne_iff_ne, beq_eq_false_iff_ne, bne_eq_false_iff_eq, ne_eq, Bool.and_eq_true, Bool.and_eq_false_iff, Bool.or_eq_true, Bool.or_eq_false_iff, Int.toNat_natCast, Nat.zero_add, Int.ofNat_lt, Int.ofNat_le, List.length_cons, List.length_nil, List.drop_zero, List.take_length] at *)
    all_goals first | assumption | omega | simp_all; done | skip
    all_goals first | rw [medRt_f2 (by assumption)] | rw [medRt_f (by rw [hr]; assumption)] | rw [medRt_t (by rw [hr]; assumption) (by show 0 ≤ n; omega)]
  all_goals
    have hr : risingRt ⟨n, d⟩ ⟨m, e⟩ = false := by simp [risingRt, h1, h2]
    repeat' (first | with_reducible apply andAll_cons | with_reducible apply andAll_nil | (with_reducible apply Cf.mk; kernel_rfl) | apply And.intro | intro _ | exact True.intro | apply Lf.mk)
    all_goals first | assumption | omega | simp_all; done | skip
    all_goals rw [medRt_f hr]
end Go.Vx
