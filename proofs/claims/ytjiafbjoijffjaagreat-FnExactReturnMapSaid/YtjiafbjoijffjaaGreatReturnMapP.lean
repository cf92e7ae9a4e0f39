/- For all arguments the law FnExactReturnMap returns true; there are no further conditions. -/
import Derived.Test.YtjiafbjoijffjaaGreatPk10
import Derived.Test.YtjiafbjoijffjaaGreatPk23
import Derived.Test.YtjiafbjoijffjaaGreatPk24
namespace Go.Vx
open Go Go.Proofs
set_option maxRecDepth 100000
set_option linter.unusedSimpArgs false
set_option linter.unusedVariables false

noncomputable def s_laws_FnExactReturnMap : Sig := ⟨4, [.list .pt, .val .iv, .val NI], [.val .bool], fun ((_ : List Pt), (_ : Iv), (_ : Int), _) => ⟨[], (true, ()), ()⟩⟩

theorem ok_laws_FnExactReturnMap : GSpec Tryz.prog s_laws_FnExactReturnMap := by
  refine fn_known tab_ok fol ((((((((Known.nil.cons ok_laws_szPointS (by kernel_rfl)).cons ok_laws_toPointS (by kernel_rfl)).cons ok_laws_toInterval (by kernel_rfl)).cons ok_laws_eqPointS (by kernel_rfl)).cons ok_laws_markPointS (by kernel_rfl)).cons ok_laws_heldPointS (by kernel_rfl)).cons ok_impl_ReturnMap (by kernel_rfl)).cons ok_spec_ReturnMap (by kernel_rfl)) (by decide) Tryz.func4 ?_
  rintro ⟨(x0 : List Pt), ⟨⟨(x1n : Int), (x1d : Int)⟩, ⟨(x1m : Int), (x1e : Int)⟩⟩, (x2 : Int), ⟨⟩⟩ ⟨hlx0, _⟩ _
  have hlx0 : x0.length ≤ 9223372036854775807 := hlx0
  have hlen := rmRes_len x0 ⟨⟨x1n, x1d⟩, ⟨x1m, x1e⟩⟩ x2
  repeat' (first | with_reducible apply andAll_cons | with_reducible apply andAll_nil | (with_reducible apply Cf.mk; kernel_rfl) | apply And.intro | intro _ | exact True.intro | apply Lf.mk)
  all_goals (try simp only [List.drop_zero, List.take_length, mkI_length, mkR_length, mkPt_length, mkIv_length, if_true, decide_true, Bool.not_true, Bool.false_eq_true, bne_self_eq_false, beq_self_eq_true, decide_eq_true_eq, decide_eq_false_iff_not] at *)
  all_goals first | omega | rfl | contradiction | (simp_all; done) | skip
end Go.Vx
namespace Go.Proofs.YtjiafbjoijffjaaGreat
open Go.Vx Go.ChangeShapes Go.WideShapes Go.ChangeAt Go.RowKit
set_option maxRecDepth 100000 in
theorem lifted_FnExactReturnMap (os : Os) (started : os.Started) (H : Type) (enc : TypeId × Value → H) :
    ReturnsInHanded {} Tryz.checked os 4 .any (Rows.fnExactReturnMapSpec.pre6 enc Tryz.prog Tryz.f4 Rows.fnExactReturnMapRow.domain false) (Rows.fnExactReturnMapSpec.post enc Tryz.prog Tryz.f4 false true false false) := by
  refine returnsInHanded_of_change (C := Tryz.checked) (by kernel_rfl) started (by kernel_rfl) Tryz.func4
    (ChangeSpec.witness6 (enc := enc) (C := Tryz.checked) false ⟨#[], #[.slice none 0 0, .agg #[.int .i64 0, .int .i64 0, .int .i64 0, .int .i64 0], .int .i64 0], []⟩ 8 (by kernel_rfl) (by kernel_rfl) (by kernel_rfl) (by kernel_rfl)) ?_
  intro W base args ds gs before hval0 hW hcnd _
  exact law_post (s := s_laws_FnExactReturnMap) (by kernel_rfl) ok_laws_FnExactReturnMap (by kernel_rfl) (tb := 4) rfl (by kernel_rfl) rfl (fun x hx => by
    exact ⟨trivial, rfl⟩
    ) rfl
    (fun ds hds => by match ds, hds with | [_, _, _], _ => rfl) hval0 hW
theorem fnExactReturnMap_holds : Rows.FnExactReturnMapSaid :=
  OpenClaim.holds_of_wide 4 Tryz.f4 rfl rfl rfl rfl rfl rfl rfl ⟨rfl, rfl, rfl, rfl, rfl⟩ rfl rfl rfl rfl rfl (by kernel_rfl) Tryz.func4 (by kernel_rfl)
    (of_decide_eq_true (by kernel_rfl)) (by unfold Func.isWrapper; first | (rw [if_pos (by decide +kernel)]; kernel_rfl) | (rw [if_neg (by decide +kernel)]; exact ⟨rfl, rfl⟩))
    (fun os started H enc _ => lifted_FnExactReturnMap os started H enc)
end Go.Proofs.YtjiafbjoijffjaaGreat
