/- For all arguments the law FnExactFromContinued returns true; there are no further conditions. -/
import Derived.Test.YtnfdefkojbookaaVxRow
import Derived.Test.YtnfdefkojbookaaVxN
namespace Go.Vx
open Go Go.Proofs
set_option maxRecDepth 100000
set_option linter.unusedSimpArgs false
set_option linter.unusedVariables false

noncomputable def s_laws_FnExactFromContinued : Sig := ⟨8, [.list NI], [.val .bool], fun ((_ : List Int), _) => ⟨[], (true, ()), ()⟩⟩

theorem ok_laws_FnExactFromContinued : GSpec Try.prog s_laws_FnExactFromContinued := by
  refine fn_known tab_ok fol (((((Known.nil.cons ok_laws_toIntS (by kernel_rfl)).cons ok_laws_eqIntS (by kernel_rfl)).cons ok_laws_eqRat (by kernel_rfl)).cons ok_spec_FromContinued (by kernel_rfl)).cons ok_impl_FromContinued (by kernel_rfl)) (by decide) Try.func8 ?_
  rintro ⟨(l : List Int), ⟨⟩⟩ ⟨hl, _⟩ _
  repeat' (first | with_reducible apply andAll_cons | with_reducible apply andAll_nil | (with_reducible apply Cf.mk; kernel_rfl) | apply And.intro | intro _ | exact True.intro | apply Lf.mk)
  all_goals (try simp only [Bool.not_eq_true', Bool.not_eq_false', Bool.not_not, decide_eq_true_eq, decide_eq_false_iff_not, beq_iff_eq, bne_iff_ne, beq_eq_false_iff_ne, bne_eq_false_iff_eq, ne_eq, Bool.and_eq_true, Bool.and_eq_false_iff, Bool.or_eq_true, Bool.or_eq_false_iff, Int.toNat_natCast, Nat.zero_add, Int.ofNat_lt, Int.ofNat_le, List.length_cons, List.length_nil, List.drop_zero, List.take_length] at *)
  all_goals first | omega | (simp_all; done) | skip
  all_goals trace_state
end Go.Vx
namespace Go.Proofs.Ytnfdefkojbookaa
open Go.Vx Go.ChangeShapes Go.WideShapes Go.ChangeAt Go.RowKit
set_option maxRecDepth 100000 in
theorem lifted_FnExactFromContinued (os : Os) (started : os.Started) (H : Type) (enc : TypeId × Value → H) :
    ReturnsInHanded {} Try.checked os 8 .any (Rows.fnExactFromContinuedSpec.pre6 enc Try.prog Try.f8 Rows.fnExactFromContinuedRow.domain false) (Rows.fnExactFromContinuedSpec.post enc Try.prog Try.f8 false true false false) := by
  refine returnsInHanded_of_change (C := Try.checked) (by kernel_rfl) started (by kernel_rfl) Try.func8
    (ChangeSpec.witness6 (enc := enc) (C := Try.checked) false ⟨#[], #[.slice none 0 0], []⟩ 8 (by kernel_rfl) (by kernel_rfl) (by kernel_rfl) (by kernel_rfl)) ?_
  intro W base args ds gs before hval0 hW hcnd _
  exact law_post (s := s_laws_FnExactFromContinued) (by kernel_rfl) ok_laws_FnExactFromContinued (by kernel_rfl) (tb := 4) rfl (by kernel_rfl) rfl (fun x hx => by
    exact ⟨trivial, rfl⟩
    ) rfl
    (fun ds hds => by match ds, hds with | [_], _ => rfl) hval0 hW
theorem fnExactFromContinued_holds : Rows.FnExactFromContinuedSaid :=
  OpenClaim.holds_of_wide 8 Try.f8 rfl rfl rfl rfl rfl rfl rfl ⟨rfl, rfl, rfl, rfl, rfl⟩ rfl rfl rfl rfl rfl (by kernel_rfl) Try.func8 (by kernel_rfl)
    (of_decide_eq_true (by kernel_rfl)) (by unfold Func.isWrapper; first | (rw [if_pos (by decide +kernel)]; kernel_rfl) | (rw [if_neg (by decide +kernel)]; exact ⟨rfl, rfl⟩))
    (fun os started H enc _ => lifted_FnExactFromContinued os started H enc)
end Go.Proofs.Ytnfdefkojbookaa
