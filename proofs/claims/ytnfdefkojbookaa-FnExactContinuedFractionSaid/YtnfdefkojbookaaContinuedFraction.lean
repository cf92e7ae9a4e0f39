/- For all arguments the law FnExactContinuedFraction returns true; there are no further conditions. -/
import Derived.Test.YtnfdefkojbookaaVxRow
import Derived.Test.YtnfdefkojbookaaVxE
namespace Go.Vx
open Go Go.Proofs
set_option maxRecDepth 100000
set_option linter.unusedSimpArgs false
set_option linter.unusedVariables false

noncomputable def s_laws_FnExactContinuedFraction : Sig := ⟨5, [.val .rat], [.val .bool], fun ((_ : Rt), _) => ⟨[], (true, ()), ()⟩⟩

theorem ok_laws_FnExactContinuedFraction : GSpec Try.prog s_laws_FnExactContinuedFraction := by
  refine fn_known tab_ok fol ((((((Known.nil.cons ok_laws_toRat (by kernel_rfl)).cons ok_laws_eqIntS (by kernel_rfl)).cons ok_laws_markIntS (by kernel_rfl)).cons ok_laws_heldIntS (by kernel_rfl)).cons ok_spec_ContinuedFraction (by kernel_rfl)).cons ok_impl_ContinuedFraction (by kernel_rfl)) (by decide) Try.func5 ?_
  rintro ⟨⟨(n : Int), (d : Int)⟩, ⟨⟩⟩ hl _
  have hlen := cfRes_length ⟨n, d⟩
  repeat' (first | with_reducible apply andAll_cons | with_reducible apply andAll_nil | (with_reducible apply Cf.mk; kernel_rfl) | apply And.intro | intro _ | exact True.intro | apply Lf.mk)
  all_goals (simp only [mkI_length, if_true, decide_true, Bool.not_true, Bool.false_eq_true, bne_self_eq_false, beq_self_eq_true, decide_eq_true_eq] at *)
  all_goals omega
end Go.Vx
namespace Go.Proofs.Ytnfdefkojbookaa
open Go.Vx Go.ChangeShapes Go.WideShapes Go.ChangeAt Go.RowKit
set_option maxRecDepth 100000 in
theorem lifted_FnExactContinuedFraction (os : Os) (started : os.Started) (H : Type) (enc : TypeId × Value → H) :
    ReturnsInHanded {} Try.checked os 5 .any (Rows.fnExactContinuedFractionSpec.pre6 enc Try.prog Try.f5 Rows.fnExactContinuedFractionRow.domain false) (Rows.fnExactContinuedFractionSpec.post enc Try.prog Try.f5 false true false false) := by
  refine returnsInHanded_of_change (C := Try.checked) (by kernel_rfl) started (by kernel_rfl) Try.func5
    (ChangeSpec.witness6 (enc := enc) (C := Try.checked) false ⟨#[], #[.agg #[.int .i64 0, .int .i64 0]], []⟩ 8 (by kernel_rfl) (by kernel_rfl) (by kernel_rfl) (by kernel_rfl)) ?_
  intro W base args ds gs before hval0 hW hcnd _
  exact law_post (s := s_laws_FnExactContinuedFraction) (by kernel_rfl) ok_laws_FnExactContinuedFraction (by kernel_rfl) (tb := 4) rfl (by kernel_rfl) rfl (fun x hx => by
    exact ⟨trivial, rfl⟩
    ) rfl
    (fun ds hds => by match ds, hds with | [_], _ => rfl) hval0 hW
theorem fnExactContinuedFraction_holds : Rows.FnExactContinuedFractionSaid :=
  OpenClaim.holds_of_wide 5 Try.f5 rfl rfl rfl rfl rfl rfl rfl ⟨rfl, rfl, rfl, rfl, rfl⟩ rfl rfl rfl rfl rfl (by kernel_rfl) Try.func5 (by kernel_rfl)
    (of_decide_eq_true (by kernel_rfl)) (by unfold Func.isWrapper; first | (rw [if_pos (by decide +kernel)]; kernel_rfl) | (rw [if_neg (by decide +kernel)]; exact ⟨rfl, rfl⟩))
    (fun os started H enc _ => lifted_FnExactContinuedFraction os started H enc)
end Go.Proofs.Ytnfdefkojbookaa
