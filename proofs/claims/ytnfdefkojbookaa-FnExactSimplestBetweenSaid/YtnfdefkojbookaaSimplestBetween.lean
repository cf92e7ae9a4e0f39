/- For all arguments the law FnExactSimplestBetween returns true; there are no further conditions. -/
import Derived.Test.YtnfdefkojbookaaVxRow
import Derived.Test.YtnfdefkojbookaaVxG
namespace Go.Vx
open Go Go.Proofs
set_option maxRecDepth 100000
set_option linter.unusedSimpArgs false
set_option linter.unusedVariables false

noncomputable def s_laws_FnExactSimplestBetween : Sig := ⟨7, [.val .rat, .val .rat], [.val .bool], fun ((_ : Rt), (_ : Rt), _) => ⟨[], (true, ()), ()⟩⟩

theorem ok_laws_FnExactSimplestBetween : GSpec Try.prog s_laws_FnExactSimplestBetween := by
  refine fn_known tab_ok fol ((((Known.nil.cons ok_laws_toRat (by kernel_rfl)).cons ok_laws_eqRat (by kernel_rfl)).cons ok_spec_SimplestBetween (by kernel_rfl)).cons ok_impl_SimplestBetween (by kernel_rfl)) (by decide) Try.func7 ?_
  rintro ⟨⟨(n : Int), (d : Int)⟩, ⟨(m : Int), (e : Int)⟩, ⟨⟩⟩ hl _
  repeat' (first | with_reducible apply andAll_cons | with_reducible apply andAll_nil | (with_reducible apply Cf.mk; kernel_rfl) | apply And.intro | intro _ | exact True.intro | apply Lf.mk)
  all_goals simp_all
end Go.Vx
namespace Go.Proofs.Ytnfdefkojbookaa
open Go.Vx Go.ChangeShapes Go.WideShapes Go.ChangeAt Go.RowKit
set_option maxRecDepth 100000 in
theorem lifted_FnExactSimplestBetween (os : Os) (started : os.Started) (H : Type) (enc : TypeId × Value → H) :
    ReturnsInHanded {} Try.checked os 7 .any (Rows.fnExactSimplestBetweenSpec.pre6 enc Try.prog Try.f7 Rows.fnExactSimplestBetweenRow.domain false) (Rows.fnExactSimplestBetweenSpec.post enc Try.prog Try.f7 false true false false) := by
  refine returnsInHanded_of_change (C := Try.checked) (by kernel_rfl) started (by kernel_rfl) Try.func7
    (ChangeSpec.witness6 (enc := enc) (C := Try.checked) false ⟨#[], #[.agg #[.int .i64 0, .int .i64 0], .agg #[.int .i64 0, .int .i64 0]], []⟩ 8 (by kernel_rfl) (by kernel_rfl) (by kernel_rfl) (by kernel_rfl)) ?_
  intro W base args ds gs before hval0 hW hcnd _
  exact law_post (s := s_laws_FnExactSimplestBetween) (by kernel_rfl) ok_laws_FnExactSimplestBetween (by kernel_rfl) (tb := 4) rfl (by kernel_rfl) rfl (fun x hx => by
    exact ⟨trivial, rfl⟩
    ) rfl
    (fun ds hds => by match ds, hds with | [_, _], _ => rfl) hval0 hW
theorem fnExactSimplestBetween_holds : Rows.FnExactSimplestBetweenSaid :=
  OpenClaim.holds_of_wide 7 Try.f7 rfl rfl rfl rfl rfl rfl rfl ⟨rfl, rfl, rfl, rfl, rfl⟩ rfl rfl rfl rfl rfl (by kernel_rfl) Try.func7 (by kernel_rfl)
    (of_decide_eq_true (by kernel_rfl)) (by unfold Func.isWrapper; first | (rw [if_pos (by decide +kernel)]; kernel_rfl) | (rw [if_neg (by decide +kernel)]; exact ⟨rfl, rfl⟩))
    (fun os started H enc _ => lifted_FnExactSimplestBetween os started H enc)
end Go.Proofs.Ytnfdefkojbookaa
