/- For all arguments the law FnExactCarryCycle returns true; there are no further conditions. -/
import Derived.Test.YtnikhgdopdagmaaGreatVxRow
import Derived.Test.YtnikhgdopdagmaaGreatVxCy
import Derived.Test.YtnikhgdopdagmaaGreatVxLP
namespace Go.Vx
open Go Go.Proofs
set_option maxRecDepth 100000
set_option linter.unusedSimpArgs false
set_option linter.unusedVariables false

noncomputable def s_laws_FnExactCarryCycle : Sig := ⟨3, [.list .pt, .list .pt, .list .pt, .list .rat], [.val .bool], fun ((_ : List Pt), (_ : List Pt), (_ : List Pt), (_ : List Rt), _) => ⟨[], (true, ()), ()⟩⟩

theorem ok_laws_FnExactCarryCycle : GSpec Tryz.prog s_laws_FnExactCarryCycle := by
  refine fn_known tab_ok fol (((((((((((Known.nil.cons ok_laws_szPointS (by kernel_rfl)).cons ok_laws_toPointS (by kernel_rfl)).cons ok_laws_eqPointS (by kernel_rfl)).cons ok_laws_markPointS (by kernel_rfl)).cons ok_laws_szRatS (by kernel_rfl)).cons ok_laws_toRatS (by kernel_rfl)).cons ok_laws_eqRatS (by kernel_rfl)).cons ok_laws_markRatS (by kernel_rfl)).cons ok_laws_heldRatS (by kernel_rfl)).cons ok_impl_CarryCycle (by kernel_rfl)).cons ok_spec_CarryCycle (by kernel_rfl)) (by decide) Tryz.func3 ?_
  rintro ⟨(x0 : List Pt), (x1 : List Pt), (x2 : List Pt), (x3 : List Rt), ⟨⟩⟩ ⟨hlx0, hlx1, hlx2, hlx3, _⟩ _
  have hlx0 : x0.length ≤ 9223372036854775807 := hlx0
  have hlx1 : x1.length ≤ 9223372036854775807 := hlx1
  have hlx2 : x2.length ≤ 9223372036854775807 := hlx2
  have hlx3 : x3.length ≤ 9223372036854775807 := hlx3
  have hlen := ccR_len x0 x1 x2 x3
  repeat' (first | with_reducible apply andAll_cons | with_reducible apply andAll_nil | (with_reducible apply Cf.mk; kernel_rfl) | apply And.intro | intro _ | exact True.intro | apply Lf.mk)
  all_goals (try simp only [List.drop_zero, List.take_length, mkI_length, mkR_length, mkPt_length, mkIv_length, if_true, decide_true, Bool.not_true, Bool.false_eq_true, bne_self_eq_false, beq_self_eq_true, decide_eq_true_eq, decide_eq_false_iff_not] at *)
  all_goals first | omega | rfl | contradiction | (simp_all; done) | skip
end Go.Vx
namespace Go.Proofs.YtnikhgdopdagmaaGreat
open Go.Vx Go.ChangeShapes Go.WideShapes Go.ChangeAt Go.RowKit
set_option maxRecDepth 100000 in
theorem lifted_FnExactCarryCycle (os : Os) (started : os.Started) (H : Type) (enc : TypeId × Value → H) :
    ReturnsInHanded {} Tryz.checked os 3 .any (Rows.fnExactCarryCycleSpec.pre6 enc Tryz.prog Tryz.f3 Rows.fnExactCarryCycleRow.domain false) (Rows.fnExactCarryCycleSpec.post enc Tryz.prog Tryz.f3 false true false false) := by
  refine returnsInHanded_of_change (C := Tryz.checked) (by kernel_rfl) started (by kernel_rfl) Tryz.func3
    (ChangeSpec.witness6 (enc := enc) (C := Tryz.checked) false ⟨#[], #[.slice none 0 0, .slice none 0 0, .slice none 0 0, .slice none 0 0], []⟩ 8 (by kernel_rfl) (by kernel_rfl) (by kernel_rfl) (by kernel_rfl)) ?_
  intro W base args ds gs before hval0 hW hcnd _
  exact law_post (s := s_laws_FnExactCarryCycle) (by kernel_rfl) ok_laws_FnExactCarryCycle (by kernel_rfl) (tb := 4) rfl (by kernel_rfl) rfl (fun x hx => by
    exact ⟨trivial, rfl⟩
    ) rfl
    (fun ds hds => by match ds, hds with | [_, _, _, _], _ => rfl) hval0 hW
theorem fnExactCarryCycle_holds : Rows.FnExactCarryCycleSaid :=
  OpenClaim.holds_of_wide 3 Tryz.f3 rfl rfl rfl rfl rfl rfl rfl ⟨rfl, rfl, rfl, rfl, rfl⟩ rfl rfl rfl rfl rfl (by kernel_rfl) Tryz.func3 (by kernel_rfl)
    (of_decide_eq_true (by kernel_rfl)) (by unfold Func.isWrapper; first | (rw [if_pos (by decide +kernel)]; kernel_rfl) | (rw [if_neg (by decide +kernel)]; exact ⟨rfl, rfl⟩))
    (fun os started H enc _ => lifted_FnExactCarryCycle os started H enc)
end Go.Proofs.YtnikhgdopdagmaaGreat
