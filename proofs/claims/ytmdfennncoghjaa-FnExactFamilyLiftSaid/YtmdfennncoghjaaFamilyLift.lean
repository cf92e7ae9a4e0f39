/- For all arguments the law FnExactFamilyLift returns true; there are no further conditions. -/
import Derived.Test.YtmdfennncoghjaaVxRow
import Derived.Test.YtmdfennncoghjaaVxLf
import Derived.Test.YtmdfennncoghjaaVxLP
namespace Go.Vx
open Go Go.Proofs
set_option maxRecDepth 100000
set_option linter.unusedSimpArgs false
set_option linter.unusedVariables false

noncomputable def s_laws_FnExactFamilyLift : Sig := ⟨9, [.lift .pt, .val NI, .val NI], [.val .bool], fun ((_ : List Pt), (_ : Int), (_ : Int), _) => ⟨[], (true, ()), ()⟩⟩

theorem ok_laws_FnExactFamilyLift : GSpec Try.prog s_laws_FnExactFamilyLift := by
  refine fn_known tab_ok fol (((((((Known.nil.cons ok_laws_szLift (by kernel_rfl)).cons ok_laws_toLift (by kernel_rfl)).cons ok_laws_eqLift (by kernel_rfl)).cons ok_laws_markLift (by kernel_rfl)).cons ok_laws_heldLift (by kernel_rfl)).cons ok_impl_FamilyLift (by kernel_rfl)).cons ok_spec_FamilyLift (by kernel_rfl)) (by decide) Try.func9 ?_
  rintro ⟨(x0 : List Pt), (x1 : Int), (x2 : Int), ⟨⟩⟩ ⟨hlx0, _⟩ _
  have hlx0 : x0.length ≤ 9223372036854775807 := hlx0
  have hlen := famR_len x0 x1 x2
  repeat' (first | with_reducible apply andAll_cons | with_reducible apply andAll_nil | (with_reducible apply Cf.mk; kernel_rfl) | apply And.intro | intro _ | exact True.intro | apply Lf.mk)
  all_goals (try simp only [List.drop_zero, List.take_length, mkI_length, mkR_length, mkPt_length, mkIv_length, if_true, decide_true, Bool.not_true, Bool.false_eq_true, bne_self_eq_false, beq_self_eq_true, decide_eq_true_eq, decide_eq_false_iff_not] at *)
  all_goals first | omega | rfl | contradiction | (simp_all; done) | skip
end Go.Vx
namespace Go.Proofs.Ytmdfennncoghjaa
open Go.Vx Go.ChangeShapes Go.WideShapes Go.ChangeAt Go.RowKit
set_option maxRecDepth 100000 in
theorem lifted_FnExactFamilyLift (os : Os) (started : os.Started) (H : Type) (enc : TypeId × Value → H) :
    ReturnsInHanded {} Try.checked os 9 .any (Rows.fnExactFamilyLiftSpec.pre6 enc Try.prog Try.f9 Rows.fnExactFamilyLiftRow.domain false) (Rows.fnExactFamilyLiftSpec.post enc Try.prog Try.f9 false true false false) := by
  refine returnsInHanded_of_change (C := Try.checked) (by kernel_rfl) started (by kernel_rfl) Try.func9
    (ChangeSpec.witness6 (enc := enc) (C := Try.checked) false ⟨#[], #[.agg #[.slice none 0 0], .int .i64 0, .int .i64 0], []⟩ 8 (by kernel_rfl) (by kernel_rfl) (by kernel_rfl) (by kernel_rfl)) ?_
  intro W base args ds gs before hval0 hW hcnd _
  exact law_post (s := s_laws_FnExactFamilyLift) (by kernel_rfl) ok_laws_FnExactFamilyLift (by kernel_rfl) (tb := 4) rfl (by kernel_rfl) rfl (fun x hx => by
    exact ⟨trivial, rfl⟩
    ) rfl
    (fun ds hds => by match ds, hds with | [_, _, _], _ => rfl) hval0 hW
theorem fnExactFamilyLift_holds : Rows.FnExactFamilyLiftSaid :=
  OpenClaim.holds_of_wide 9 Try.f9 rfl rfl rfl rfl rfl rfl rfl ⟨rfl, rfl, rfl, rfl, rfl⟩ rfl rfl rfl rfl rfl (by kernel_rfl) Try.func9 (by kernel_rfl)
    (of_decide_eq_true (by kernel_rfl)) (by unfold Func.isWrapper; first | (rw [if_pos (by decide +kernel)]; kernel_rfl) | (rw [if_neg (by decide +kernel)]; exact ⟨rfl, rfl⟩))
    (fun os started H enc _ => lifted_FnExactFamilyLift os started H enc)
end Go.Proofs.Ytmdfennncoghjaa
