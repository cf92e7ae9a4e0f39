/- For all arguments the law FnExactIsReflected returns true; there are no further conditions. -/
import Derived.Test.YtlknhfldkkjclaaVxRow
import Derived.Test.YtlknhfldkkjclaaVxIr
import Derived.Test.YtlknhfldkkjclaaVxLP
namespace Go.Vx
open Go Go.Proofs
set_option maxRecDepth 100000
set_option linter.unusedSimpArgs false
set_option linter.unusedVariables false

noncomputable def s_laws_FnExactIsReflected : Sig := ⟨3, [.list .pt, .list .pt], [.val .bool], fun ((_ : List Pt), (_ : List Pt), _) => ⟨[], (true, ()), ()⟩⟩

theorem ok_laws_FnExactIsReflected : GSpec Try.prog s_laws_FnExactIsReflected := by
  refine fn_known tab_ok fol (((((Known.nil.cons ok_laws_szPointS (by kernel_rfl)).cons ok_laws_toPointS (by kernel_rfl)).cons ok_laws_eqPointS (by kernel_rfl)).cons ok_impl_IsReflected (by kernel_rfl)).cons ok_spec_IsReflected (by kernel_rfl)) (by decide) Try.func3 ?_
  rintro ⟨(x0 : List Pt), (x1 : List Pt), ⟨⟩⟩ ⟨hlx0, hlx1, _⟩ _
  have hlx0 : x0.length ≤ 9223372036854775807 := hlx0
  have hlx1 : x1.length ≤ 9223372036854775807 := hlx1
  repeat' (first | with_reducible apply andAll_cons | with_reducible apply andAll_nil | (with_reducible apply Cf.mk; kernel_rfl) | apply And.intro | intro _ | exact True.intro | apply Lf.mk)
  all_goals (try simp only [List.drop_zero, List.take_length, mkI_length, mkR_length, mkPt_length, mkIv_length, if_true, decide_true, Bool.not_true, Bool.false_eq_true, bne_self_eq_false, beq_self_eq_true, decide_eq_true_eq, decide_eq_false_iff_not] at *)
  all_goals first | omega | rfl | contradiction | (simp_all; done) | skip
end Go.Vx
namespace Go.Proofs.Ytlknhfldkkjclaa
open Go.Vx Go.ChangeShapes Go.WideShapes Go.ChangeAt Go.RowKit
set_option maxRecDepth 100000 in
theorem lifted_FnExactIsReflected (os : Os) (started : os.Started) (H : Type) (enc : TypeId × Value → H) :
    ReturnsInHanded {} Try.checked os 3 .any (Rows.fnExactIsReflectedSpec.pre6 enc Try.prog Try.f3 Rows.fnExactIsReflectedRow.domain false) (Rows.fnExactIsReflectedSpec.post enc Try.prog Try.f3 false true false false) := by
  refine returnsInHanded_of_change (C := Try.checked) (by kernel_rfl) started (by kernel_rfl) Try.func3
    (ChangeSpec.witness6 (enc := enc) (C := Try.checked) false ⟨#[], #[.slice none 0 0, .slice none 0 0], []⟩ 8 (by kernel_rfl) (by kernel_rfl) (by kernel_rfl) (by kernel_rfl)) ?_
  intro W base args ds gs before hval0 hW hcnd _
  exact law_post (s := s_laws_FnExactIsReflected) (by kernel_rfl) ok_laws_FnExactIsReflected (by kernel_rfl) (tb := 4) rfl (by kernel_rfl) rfl (fun x hx => by
    exact ⟨trivial, rfl⟩
    ) rfl
    (fun ds hds => by match ds, hds with | [_, _], _ => rfl) hval0 hW
theorem fnExactIsReflected_holds : Rows.FnExactIsReflectedSaid :=
  OpenClaim.holds_of_wide 3 Try.f3 rfl rfl rfl rfl rfl rfl rfl ⟨rfl, rfl, rfl, rfl, rfl⟩ rfl rfl rfl rfl rfl (by kernel_rfl) Try.func3 (by kernel_rfl)
    (of_decide_eq_true (by kernel_rfl)) (by unfold Func.isWrapper; first | (rw [if_pos (by decide +kernel)]; kernel_rfl) | (rw [if_neg (by decide +kernel)]; exact ⟨rfl, rfl⟩))
    (fun os started H enc _ => lifted_FnExactIsReflected os started H enc)
end Go.Proofs.Ytlknhfldkkjclaa
