/- For all arguments the law FnChanges returns true; there are no further conditions. -/
import Derived.Test.YtjiafbjoijffjaaGreatPk10
import Derived.Test.YtjiafbjoijffjaaGreatPk11
import Derived.Test.YtjiafbjoijffjaaGreatPk25
import Derived.Test.YtjiafbjoijffjaaGreatPk29
import Derived.Test.YtjiafbjoijffjaaGreatPk30
namespace Go.Vx
open Go Go.Proofs
set_option maxRecDepth 100000
set_option linter.unusedSimpArgs false
set_option linter.unusedVariables false

noncomputable def s_laws_FnChanges : Sig := ⟨6, [.val .raw, .val .raw], [.val .bool], fun ((_ : Raw), (_ : Raw), _) => ⟨[], (true, ()), ()⟩⟩
theorem eqRt_self6 (x : Rt) : eqRt x x = true := by simp [eqRt]
theorem rt_eta6 (x : Rt) : (⟨x.num, x.den⟩ : Rt) = x := rfl
theorem ic_eq (h : List Pt) : icRes h = (bif chOk h then exR h else [], chOk h) := by
  unfold icRes
  cases chOk h <;> rfl
set_option maxHeartbeats 40000000 in
theorem ok_laws_FnChanges : GSpec Tryz.prog s_laws_FnChanges := by
  refine fn_knownJ (some 43) tab_ok fol ((((((((((((((((Known.nil.cons ok_spec_DrawChangeBack (by kernel_rfl)).cons ok_impl_ChangeBack (by kernel_rfl)).cons ok_spec_ChangeBack (by kernel_rfl)).cons ok_impl_InverseChange (by kernel_rfl)).cons ok_spec_InverseChange (by kernel_rfl)).cons ok_spec_DrawChangeThrough (by kernel_rfl)).cons ok_impl_ChangeThrough (by kernel_rfl)).cons ok_spec_ChangeThrough (by kernel_rfl)).cons ok_spec_DrawConjugateMap (by kernel_rfl)).cons ok_impl_ConjugateMap (by kernel_rfl)).cons ok_spec_ConjugateMap (by kernel_rfl)).cons ok_laws_qMap (by kernel_rfl)).cons ok_impl_IsChange (by kernel_rfl)).cons ok_impl_ValueAt (by kernel_rfl)).cons ok_impl_IsConjugacy (by kernel_rfl)).cons ok_spec_IsConjugacy (by kernel_rfl)) (by decide) Tryz.func6 ?_
  rintro ⟨(r : Raw), (s : Raw), ⟨⟩⟩ hl _
  have t1 := dCth_ok (r := s)
  have i2 : (icRes (dChbV1 r)).2 = chOk (dChbV1 r) := by rw [ic_eq]
  refine VJ.upto 13 ?_
  repeat' (first | with_reducible apply andAll_cons | with_reducible apply andAll_nil | (with_reducible apply Cf.mk; kernel_rfl) | apply And.intro | intro _ | exact True.intro | apply Lf.mk)
  all_goals first
    | with_reducible exact Eq.refl _ | exact ⟨100000, rfl⟩ | exact ⟨100001, rfl⟩
    | omega
    | skip
  refine VJ.cut ⟨[], [6, 7, 200470, 200640, 200740, 200741, 200800, 200910, 200911, 200970, 201030], []⟩ ?_ ?_
  · repeat' (first | with_reducible apply andAll_cons | with_reducible apply andAll_nil | (with_reducible apply Cf.mk; kernel_rfl) | apply And.intro | intro _ | exact True.intro | apply Lf.mk)
    all_goals first
      | with_reducible exact Eq.refl _
      | ((with_reducible show false = true)
         exfalso
         have hb : (cbRes (dChbV1 r) (dChbV2 r)).2 = true := (by assumption)
         have e := (cb_val hb).2.1
         simp only [i2, e, rt_eta6, eqRt_self6, beq_self_eq_true, bne_self_eq_false, decide_true, Bool.not_true, Bool.not_false, Bool.false_eq_true, Bool.true_eq_false, reduceCtorEq] at *
         done)
      | ((with_reducible show false = true)
         exfalso
         simp only [i2, rt_eta6, eqRt_self6, beq_self_eq_true, bne_self_eq_false, decide_true, Bool.not_true, Bool.not_false, Bool.false_eq_true, Bool.true_eq_false, reduceCtorEq] at *
         done)
      | skip
    all_goals trace_state
  refine VJ.cut ⟨[], [6, 7, 200470, 200740, 200741, 200800, 200910, 200911, 200970, 201030], []⟩ ?_ ?_
  · repeat' (first | with_reducible apply andAll_cons | with_reducible apply andAll_nil | (with_reducible apply Cf.mk; kernel_rfl) | apply And.intro | intro _ | exact True.intro | apply Lf.mk)
    all_goals first
      | with_reducible exact Eq.refl _
      | skip
    all_goals (have hb : (icRes (dChbV1 r)).2 = true := (by assumption))
    all_goals (have hc : chOk (dChbV1 r) = true := i2.symm.trans hb)
    all_goals (have e1 : (icRes (dChbV1 r)).1 = exR (dChbV1 r) := by rw [ic_t hc])
    all_goals (have e3 : chOk (exR (dChbV1 r)) = true := ex_ch hc)
    all_goals (have e2 : icRes (exR (dChbV1 r)) = (dChbV1 r, true) := by rw [ic_t e3, ex_twice])
    all_goals first
      | ((with_reducible show false = true)
         exfalso
         simp only [e1, e2, e3, rt_eta6, eqRt_self6, beq_self_eq_true, bne_self_eq_false, decide_true, Bool.not_true, Bool.not_false, Bool.false_eq_true, Bool.true_eq_false, reduceCtorEq] at *
         done)
      | skip
    all_goals trace_state
  refine VJ.cut ⟨[], [200740, 200741, 200800, 200910, 200911, 200970, 201030], []⟩ ?_ ?_
  · repeat' (first | with_reducible apply andAll_cons | with_reducible apply andAll_nil | (with_reducible apply Cf.mk; kernel_rfl) | apply And.intro | intro _ | exact True.intro | apply Lf.mk)
    all_goals first
      | with_reducible exact Eq.refl _
      | skip
    all_goals (have hb : (cbRes (dChbV1 r) (dChbV2 r)).2 = true := (by assumption))
    all_goals (have hq := cb_val hb)
    all_goals (have hv : vaRes (dChbV1 r) (cbRes (dChbV1 r) (dChbV2 r)).1 = vR (dChbV1 r) (cbRes (dChbV1 r) (dChbV2 r)).1 := va_t hq.1 hq.2.2.2.1)
    all_goals first
      | ((with_reducible show false = true)
         exfalso
         have h1 : (vaRes (dChbV1 r) (cbRes (dChbV1 r) (dChbV2 r)).1).2 = true := (by assumption)
         have e := hq.2.2.2.2 (by rw [← hv]; exact h1)
         rw [← hv] at e
         simp only [e, rt_eta6, eqRt_self6, beq_self_eq_true, bne_self_eq_false, decide_true, Bool.not_true, Bool.not_false, Bool.false_eq_true, Bool.true_eq_false, reduceCtorEq] at *
         done)
      | skip
    all_goals trace_state
  refine VJ.cut ⟨[], [200910, 200911, 200970, 201030], []⟩ ?_ ?_
  · repeat' (first | with_reducible apply andAll_cons | with_reducible apply andAll_nil | (with_reducible apply Cf.mk; kernel_rfl) | apply And.intro | intro _ | exact True.intro | apply Lf.mk)
    all_goals first
      | with_reducible exact Eq.refl _
      | skip
    all_goals (have hb : (thRes (dCthV1 s) (dCthV2 s)).2 = true := (by assumption))
    all_goals (have hq := th_val hb)
    all_goals (have hlen := hq.2.2.1)
    all_goals (have et := hq.2.2.2.2.1)
    refine ⟨Nat, fun k => ⟨[(195, .sc (.num .i64 k))], [200740, 200741, 200800, 200910, 200911, 200970, 201030], []⟩, fun k => k ≤ (dCthV1 s).length, fun k => (dCthV1 s).length - k, ⟨0, Nat.zero_le _, ?_⟩, ?_⟩
    · repeat' (first | apply And.intro | exact True.intro | exact Lf.mk (by with_reducible rfl) | apply Lf.mk)
      all_goals rfl
    · intro k g1
      have hv : k < (dCthV1 s).length → vaRes (thRes (dCthV1 s) (dCthV2 s)).1 (getA zR (dCthV1 s) k) = (getA zR (dCthV2 s) k, true) := fun hk => by
        have := hq.2.2.2.2.2 k hk
        rw [et, va_t hq.2.2.2.1 this.1]; exact this.2
      have hch : chOk (thRes (dCthV1 s) (dCthV2 s)).1 = true := by rw [et]; exact th_ch hq.2.1 hq.2.2.1 hq.2.2.2.1
      repeat' (first | with_reducible apply andAll_cons | with_reducible apply andAll_nil | (with_reducible apply Cf.mk; kernel_rfl) | apply And.intro | intro _ | exact True.intro | apply Lf.mk)
      all_goals (try (have hk : k < (dCthV1 s).length := (by simp only [decide_eq_true_eq] at *; omega)))
      all_goals first
        | omega
        | with_reducible exact Eq.refl _
        | ((with_reducible show false = true)
           exfalso
           have e : vaRes (thRes (dCthV1 s) (dCthV2 s)).1 (getA VK.rat.dflt (dCthV1 s) k) = (getA VK.rat.dflt (dCthV2 s) k, true) := hv hk
           simp only [rt_eta6, Int.toNat_natCast, e, eqRt_self6, cond_true, cond_false, beq_self_eq_true, bne_self_eq_false, decide_true, Bool.not_true, Bool.not_false, Bool.false_eq_true, Bool.true_eq_false, reduceCtorEq] at *
           done)
        | ((with_reducible show false = true)
           exfalso
           simp only [hch, rt_eta6, eqRt_self6, beq_self_eq_true, bne_self_eq_false, decide_true, Bool.not_true, Bool.not_false, Bool.false_eq_true, Bool.true_eq_false, reduceCtorEq] at *
           done)
        | (refine ⟨k + 1, by omega, by (dsimp only; omega), ?_⟩
           repeat' (first | apply And.intro | exact True.intro | exact Lf.mk (by with_reducible rfl) | apply Lf.mk)
           all_goals first | rfl | (rw [Int.natCast_add]; rfl) | trace_state)
        | trace_state
  refine VJ.of ?_
  repeat' (first | with_reducible apply andAll_cons | with_reducible apply andAll_nil | (with_reducible apply Cf.mk; kernel_rfl) | apply And.intro | intro _ | exact True.intro | apply Lf.mk)
  all_goals first
    | with_reducible exact Eq.refl _
    | ((with_reducible show false = true)
       exfalso
       have h1 : (cmRes (dCjmV1 s) (dCjmV2 s)).2 = true := (by assumption)
       have h2 : (cjRes (dCjmV1 s) (cmRes (dCjmV1 s) (dCjmV2 s)).1 (dCjmV2 s)).2 = true := (by assumption)
       have e := cm_conj h1 h2
       simp only [e, rt_eta6, eqRt_self6, beq_self_eq_true, bne_self_eq_false, decide_true, Bool.not_true, Bool.not_false, Bool.false_eq_true, Bool.true_eq_false, reduceCtorEq] at *
       done)
    | ((with_reducible show false = true)
       exfalso
       simp only [rt_eta6, eqRt_self6, beq_self_eq_true, bne_self_eq_false, decide_true, Bool.not_true, Bool.not_false, Bool.false_eq_true, Bool.true_eq_false, reduceCtorEq] at *
       done)
    | trace_state
end Go.Vx
namespace Go.Proofs.YtjiafbjoijffjaaGreat
open Go.Vx Go.ChangeShapes Go.WideShapes Go.ChangeAt Go.RowKit
set_option maxRecDepth 100000 in
theorem lifted_FnChanges (os : Os) (started : os.Started) (H : Type) (enc : TypeId × Value → H) :
    ReturnsInHanded {} Tryz.checked os 6 .any (Rows.fnChangesSpec.pre6 enc Tryz.prog Tryz.f6 Rows.fnChangesRow.domain false) (Rows.fnChangesSpec.post enc Tryz.prog Tryz.f6 false true false false) := by
  refine returnsInHanded_of_change (C := Tryz.checked) (by kernel_rfl) started (by kernel_rfl) Tryz.func6
    (ChangeSpec.witness6 (enc := enc) (C := Tryz.checked) false ⟨#[], #[.slice none 0 0, .slice none 0 0], []⟩ 8 (by kernel_rfl) (by kernel_rfl) (by kernel_rfl) (by kernel_rfl)) ?_
  intro W base args ds gs before hval0 hW hcnd _
  exact law_post (s := s_laws_FnChanges) (by kernel_rfl) ok_laws_FnChanges (by kernel_rfl) (tb := 4) rfl (by kernel_rfl) rfl (fun x hx => by
    exact ⟨trivial, rfl⟩
    ) rfl
    (fun ds hds => by match ds, hds with | [_, _], _ => rfl) hval0 hW
theorem fnChanges_holds : Rows.FnChangesSaid :=
  OpenClaim.holds_of_wide 6 Tryz.f6 rfl rfl rfl rfl rfl rfl rfl ⟨rfl, rfl, rfl, rfl, rfl⟩ rfl rfl rfl rfl rfl (by kernel_rfl) Tryz.func6 (by kernel_rfl)
    (of_decide_eq_true (by kernel_rfl)) (by unfold Func.isWrapper; first | (rw [if_pos (by decide +kernel)]; kernel_rfl) | (rw [if_neg (by decide +kernel)]; exact ⟨rfl, rfl⟩))
    (fun os started H enc _ => lifted_FnChanges os started H enc)
end Go.Proofs.YtjiafbjoijffjaaGreat
