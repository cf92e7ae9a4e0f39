/- For all arguments the law FnExactPathTo returns true; there are no further conditions. -/
import Derived.Test.YtpddkloikegoiaaVxRow
import Derived.Test.YtpddkloikegoiaaVxPt
import Derived.Test.YtpddkloikegoiaaVxLP
namespace Go.Vx
open Go Go.Proofs
set_option maxRecDepth 100000
set_option linter.unusedSimpArgs false
set_option linter.unusedVariables false

noncomputable def s_laws_FnExactPathTo : Sig := ⟨6, [.val .rat], [.val .bool], fun ((_ : Rt), _) => ⟨[], (true, ()), ()⟩⟩

theorem ok_laws_FnExactPathTo : GSpec Try.prog s_laws_FnExactPathTo := by
  refine fn_known tab_ok fol (((Known.nil.cons ok_laws_toRat (by kernel_rfl)).cons ok_impl_PathTo (by kernel_rfl)).cons ok_spec_PathTo (by kernel_rfl)) (by decide) Try.func6 ?_
  rintro ⟨⟨(x0n : Int), (x0d : Int)⟩, ⟨⟩⟩ ⟨_⟩ _
  repeat' (first | with_reducible apply andAll_cons | with_reducible apply andAll_nil | (with_reducible apply Cf.mk; kernel_rfl) | apply And.intro | intro _ | exact True.intro | apply Lf.mk)
  all_goals (try simp only [List.drop_zero, List.take_length, mkI_length, mkR_length, mkPt_length, mkIv_length, if_true, decide_true, Bool.not_true, Bool.false_eq_true, bne_self_eq_false, beq_self_eq_true, decide_eq_true_eq, decide_eq_false_iff_not] at *)
  all_goals first | omega | rfl | contradiction | (simp_all; done) | skip
end Go.Vx
namespace Go.Proofs.Ytpddkloikegoiaa
open Go.Vx Go.ChangeShapes Go.WideShapes Go.ChangeAt Go.RowKit
set_option maxRecDepth 100000 in
theorem lifted_FnExactPathTo (os : Os) (started : os.Started) (H : Type) (enc : TypeId × Value → H) :
    ReturnsInHanded {} Try.checked os 6 .any (Rows.fnExactPathToSpec.pre6 enc Try.prog Try.f6 Rows.fnExactPathToRow.domain false) (Rows.fnExactPathToSpec.post enc Try.prog Try.f6 false true false false) := by
  refine returnsInHanded_of_change (C := Try.checked) (by kernel_rfl) started (by kernel_rfl) Try.func6
    (ChangeSpec.witness6 (enc := enc) (C := Try.checked) false ⟨#[], #[.agg #[.int .i64 0, .int .i64 0]], []⟩ 8 (by kernel_rfl) (by kernel_rfl) (by kernel_rfl) (by kernel_rfl)) ?_
  intro W base args ds gs before hval0 hW hcnd _
  exact law_post (s := s_laws_FnExactPathTo) (by kernel_rfl) ok_laws_FnExactPathTo (by kernel_rfl) (tb := 4) rfl (by kernel_rfl) rfl (fun x hx => by
    exact ⟨trivial, rfl⟩
    ) rfl
    (fun ds hds => by match ds, hds with | [_], _ => rfl) hval0 hW
theorem fnExactPathTo_holds : Rows.FnExactPathToSaid :=
  OpenClaim.holds_of_wide 6 Try.f6 rfl rfl rfl rfl rfl rfl rfl ⟨rfl, rfl, rfl, rfl, rfl⟩ rfl rfl rfl rfl rfl (by kernel_rfl) Try.func6 (by kernel_rfl)
    (of_decide_eq_true (by kernel_rfl)) (by unfold Func.isWrapper; first | (rw [if_pos (by decide +kernel)]; kernel_rfl) | (rw [if_neg (by decide +kernel)]; exact ⟨rfl, rfl⟩))
    (fun os started H enc _ => lifted_FnExactPathTo os started H enc)
end Go.Proofs.Ytpddkloikegoiaa
