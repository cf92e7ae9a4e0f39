/- Fractions from 0 to 1: the program's functions and the reference's. -/
import Derived.Test.YtalgocopemmelaaGreatDoorVxC
import Derived.Test.YtalgocopemmelaaGreatDoorVxF
import Derived.Test.YtalgocopemmelaaGreatDoorVpSb
namespace Go.Vx
open Go Go.Proofs
set_option maxRecDepth 100000
set_option linter.unusedSimpArgs false
set_option linter.unusedVariables false

noncomputable def s_impl_isUnit : Sig := ⟨99, [.val .rat], [.val .bool], fun ((r : Rt), _) => ⟨[], (unitRt r, ()), ()⟩⟩
noncomputable def s_spec_raUnit : Sig := ⟨93, [.val .rat], [.val .bool], fun ((r : Rt), _) => ⟨[], (unitRt r, ()), ()⟩⟩

theorem ok_impl_isUnit : GSpec Tryz.prog s_impl_isUnit := by
  refine fn_known tab_ok fol (Known.nil.cons ok_impl_isRat (by kernel_rfl)) (by decide) Tryz.func99 ?_
  rintro ⟨⟨(n : Int), (d : Int)⟩, ⟨⟩⟩ hl _
  repeat' (first | with_reducible apply andAll_cons | with_reducible apply andAll_nil | (with_reducible apply Cf.mk; kernel_rfl) | apply And.intro | intro _ | exact True.intro | apply Lf.mk)
  all_goals (try simp only [Bool.not_eq_true', Bool.not_eq_false', Bool.not_not, decide_eq_true_eq, decide_eq_false_iff_not, beq_iff_eq, bne_iff_ne, beq_eq_false_iff_ne, bne_eq_false_iff_eq, ne_eq, Bool.and_eq_true, Bool.and_eq_false_iff, Bool.or_eq_true, Bool.or_eq_false_iff, Int.toNat_natCast, Nat.zero_add, Int.ofNat_lt, Int.ofNat_le, List.length_cons, List.length_nil, List.drop_zero, List.take_length] at *)
  all_goals (try change @Eq Bool _ _)
  all_goals (simp_all [unitRt])
  all_goals omega
theorem any_not {α : Type} (p : α → Bool) (l : List α) : (!(l.any fun x => !p x)) = l.all p := by
  rw [List.not_any_eq_all_not]; simp
theorem ok_spec_raUnit : GSpec Tryz.prog s_spec_raUnit := by
  refine fn_known tab_ok fol ((Known.nil.cons ok_spec_raGood (by kernel_rfl)).cons ok_spec_l1In (by kernel_rfl)) (by decide) Tryz.func93 ?_
  rintro ⟨⟨(n : Int), (d : Int)⟩, ⟨⟩⟩ hl _
  repeat' (first | with_reducible apply andAll_cons | with_reducible apply andAll_nil | (with_reducible apply Cf.mk; kernel_rfl) | apply And.intro | intro _ | exact True.intro | apply Lf.mk)
  all_goals (try simp only [Bool.not_eq_true', Bool.not_eq_false', Bool.not_not, decide_eq_true_eq, decide_eq_false_iff_not, beq_iff_eq, bne_iff_ne, beq_eq_false_iff_ne, bne_eq_false_iff_eq, ne_eq, Bool.and_eq_true, Bool.and_eq_false_iff, Bool.or_eq_true, Bool.or_eq_false_iff, Int.toNat_natCast, Nat.zero_add, Int.ofNat_lt, Int.ofNat_le, List.length_cons, List.length_nil, List.drop_zero, List.take_length] at *)
  all_goals (try change @Eq Bool _ _)
  all_goals (simp_all [unitRt, inB])
  all_goals omega
end Go.Vx
