/- For all arguments the law FnReturns returns true; there are no further conditions. -/
import Derived.Test.YtjiafbjoijffjaaGreatPk10
import Derived.Test.YtjiafbjoijffjaaGreatPk11
import Derived.Test.YtjiafbjoijffjaaGreatPk27
import Derived.Test.YtjiafbjoijffjaaGreatPk28
namespace Go.Vx
open Go Go.Proofs
set_option maxRecDepth 100000
set_option linter.unusedSimpArgs false
set_option linter.unusedVariables false

noncomputable def s_laws_FnReturns : Sig := ⟨3, [.val .raw, .val .raw], [.val .bool], fun ((_ : Raw), (_ : Raw), _) => ⟨[], (true, ()), ()⟩⟩
theorem eqRt_self7 (x : Rt) : eqRt x x = true := by simp [eqRt]
theorem rt_eta7 (x : Rt) : (⟨x.num, x.den⟩ : Rt) = x := rfl
theorem iv_eta7 (x : Iv) : (⟨x.a, x.b⟩ : Iv) = x := rfl
theorem eqIv_self7 (x : Iv) : eqIv x x = true := by simp [eqIv]
set_option maxHeartbeats 40000000 in
theorem ok_laws_FnReturns : GSpec Tryz.prog s_laws_FnReturns := by
  refine fn_knownJ none tab_ok fol ((((((((((((((((Known.nil.cons ok_laws_big (by kernel_rfl)).cons ok_spec_DrawIsRestrictive (by kernel_rfl)).cons ok_impl_IsRestrictive (by kernel_rfl)).cons ok_spec_IsRestrictive (by kernel_rfl)).cons ok_impl_ImagesOf (by kernel_rfl)).cons ok_spec_ImagesOf (by kernel_rfl)).cons ok_impl_ReturnsAfter (by kernel_rfl)).cons ok_spec_ReturnsAfter (by kernel_rfl)).cons ok_laws_pSameCover (by kernel_rfl)).cons ok_impl_ImageInterval (by kernel_rfl)).cons ok_laws_pLess (by kernel_rfl)).cons ok_impl_LeastReturn (by kernel_rfl)).cons ok_spec_LeastReturn (by kernel_rfl)).cons ok_spec_DrawRestrictiveAmong (by kernel_rfl)).cons ok_impl_RestrictiveAmong (by kernel_rfl)).cons ok_spec_RestrictiveAmong (by kernel_rfl)) (by decide) Tryz.func3 ?_
  rintro ⟨(r : Raw), (s : Raw), ⟨⟩⟩ hl _
  have e1 := rq_ok1 (dIsrV1 r) (dIsrV2 r) (dIsrV3 r)
  have e2 := rq_ok2 (dIsrV1 r) (dIsrV2 r) (dIsrV3 r)
  refine VJ.upto 9 ?_
  repeat' (first | with_reducible apply andAll_cons | with_reducible apply andAll_nil | (with_reducible apply Cf.mk; kernel_rfl) | apply And.intro | intro _ | exact True.intro | apply Lf.mk)
  all_goals first
    | with_reducible exact Eq.refl _ | exact ⟨100000, rfl⟩ | exact ⟨100001, rfl⟩
    | skip
  refine VJ.cut ⟨[], [6, 200460, 200680, 200750], []⟩ ?_ ?_
  · repeat' (first | with_reducible apply andAll_cons | with_reducible apply andAll_nil | (with_reducible apply Cf.mk; kernel_rfl) | apply And.intro | intro _ | exact True.intro | apply Lf.mk)
    all_goals (try simp only [rt_eta7, iv_eta7] at *)
    all_goals first
      | with_reducible exact Eq.refl _
      | (exfalso
         have h5 := rq_rest (f := dIsrV1 r) (i := dIsrV2 r) (n := dIsrV3 r) (by assumption)
         simp only [h5, e1, e2, beq_self_eq_true, bne_self_eq_false, decide_true, Bool.not_true, Bool.not_false, Bool.false_eq_true, Bool.true_eq_false, reduceCtorEq] at *
         done)
      | (exfalso
         simp only [e1, e2, beq_self_eq_true, bne_self_eq_false, decide_true, Bool.not_true, Bool.not_false, Bool.false_eq_true, Bool.true_eq_false, reduceCtorEq] at *
         done)
      | trace_state
  · refine VJ.cut ⟨[], [], []⟩ ?_ ?_
    · repeat' (first | with_reducible apply andAll_cons | with_reducible apply andAll_nil | (with_reducible apply Cf.mk; kernel_rfl) | apply And.intro | intro _ | exact True.intro | apply Lf.mk)
      all_goals (try simp only [rt_eta7, iv_eta7] at *)
      all_goals first
        | with_reducible exact Eq.refl _
        | skip
      all_goals (have h6 : (irRes (dIsrV1 r) (dIsrV2 r) (dIsrV3 r)).2 = true := (by assumption))
      all_goals (have ho := e1.symm.trans h6)
      all_goals (have w := rq_len ho)
      all_goals (have w1 := w.1)
      all_goals (have w2 := w.2.1)
      all_goals (have w3 := w.2.2.1)
      all_goals (have w5 := w.2.2.2.2.1)
      all_goals (have w6 := w.2.2.2.2.2)
      all_goals (have w7 : ((imsRes (dIsrV1 r) (dIsrV2 r) (dIsrV3 r)).1.length : Int) = dIsrV3 r + 1 := by omega)
      all_goals first
        | omega
        | (show _ < List.length _
           omega)
        | (exfalso
           simp only [w7, bne_self_eq_false, Bool.false_eq_true, Bool.true_eq_false, reduceCtorEq] at *
           done)
        | (exfalso
           have e : (!eqIv (getA VK.iv.dflt (imsRes (dIsrV1 r) (dIsrV2 r) (dIsrV3 r)).1 (Int.toNat 0)) (dIsrV2 r)) = true := (by assumption)
           rw [show Int.toNat 0 = 0 from rfl, w6, eqIv_self7] at e
           exact absurd e (by decide))
        | (exfalso
           simp only [w7, bne_self_eq_false, cond_false, show Int.toNat 0 = 0 from rfl, w6, eqIv_self7, Bool.not_true, Bool.false_eq_true, reduceCtorEq] at *
           done)
        | skip
      refine ⟨Nat, fun k => ⟨[(20, .sc (.num .i64 k))], [6, 200460, 200680, 200750], []⟩, fun k => k ≤ (dIsrV3 r).toNat, fun k => (dIsrV3 r).toNat - k, ⟨0, Nat.zero_le _, ?_⟩, ?_⟩
      · repeat' (first | apply And.intro | exact True.intro | exact Lf.mk (by with_reducible rfl) | apply Lf.mk)
        all_goals first | rfl | trace_state
      · intro k g1
        have hst := fun h => rq_step (f := dIsrV1 r) (i := dIsrV2 r) (n := dIsrV3 r) ho (k := k) h
        repeat' (first | with_reducible apply andAll_cons | with_reducible apply andAll_nil | (with_reducible apply Cf.mk; kernel_rfl) | apply And.intro | intro _ | exact True.intro | apply Lf.mk)
        all_goals (try simp only [rt_eta7, iv_eta7] at *)
        all_goals first
          | with_reducible exact Eq.refl _
          | omega
          | (show _ < List.length _
             omega)
          | (have hk4 : (k : Int) < dIsrV3 r := of_decide_eq_true (by assumption)
             have e7 := hst (by omega)
             have t1 : ((k : Int)).toNat = k := by omega
             have t2 : ((k : Int) + 1).toNat = k + 1 := by omega
             first
               | omega
               | (show _ < List.length _
                  omega)
               | ((with_reducible show false = true)
                  exfalso
                  simp only [t1, t2, e7, eqIv_self7, cond_false, Bool.not_true, Bool.not_false, Bool.false_eq_true, Bool.true_eq_false, reduceCtorEq] at *
                  done)
               | (exfalso
                  simp only [t1, t2, e7, Bool.true_eq_false, reduceCtorEq] at *
                  done)
               | (refine ⟨k + 1, by omega, (show (dIsrV3 r).toNat - (k + 1) < (dIsrV3 r).toNat - k by omega), ?_⟩
                  repeat' (first | apply And.intro | exact True.intro | exact Lf.mk (by with_reducible rfl) | apply Lf.mk)
                  all_goals first | rfl | (rw [Int.natCast_add]; rfl)))
          | skip
        all_goals (have w8 : ivOk (getA VK.iv.dflt (imsRes (dIsrV1 r) (dIsrV2 r) (dIsrV3 r)).1 (dIsrV3 r).toNat) = true := w.2.2.2.1 _ (getA_mem' (by omega)))
        all_goals (have i8 := ivOk_iff.1 w8)
        all_goals (have i9 := ivOk_iff.1 w5)
        all_goals first
          | ((with_reducible show goodRt _ = true); first | exact unit_good i8.1 | exact unit_good i8.2.1 | exact unit_good i9.1 | exact unit_good i9.2.1)
          | ((with_reducible show false = true)
             exfalso
             have l1 := rq_lr1 (f := dIsrV1 r) (i := dIsrV2 r) (n := dIsrV3 r) (by assumption)
             simp only [l1, Bool.not_true, Bool.not_false, Bool.false_eq_true, Bool.true_eq_false, reduceCtorEq] at *
             done)
          | ((with_reducible show false = true)
             exfalso
             have l2 := rq_lr2 (f := dIsrV1 r) (i := dIsrV2 r) (n := dIsrV3 r) (by assumption)
             have l3 := l2.1
             have l4 := l2.2.1
             have l5 := l2.2.2
             first
               | (have l6 : decide (dIsrV3 r < (lrRes (dIsrV1 r) (dIsrV2 r) (dIsrV3 r)).1) = true := (by assumption)
                  have := of_decide_eq_true l6
                  omega)
               | (simp only [l3, l4, Bool.not_true, Bool.not_false, Bool.false_eq_true, Bool.true_eq_false, reduceCtorEq] at *
                  done))
          | ((with_reducible show false = true)
             exfalso
             have r8 := congrArg Prod.fst (ra_t ho)
             dsimp only at r8
             unfold liesR lessRt at r8
             first
               | (rename_i hA hT
                  rw [hA, Bool.false_and] at r8
                  rw [r8] at hT
                  exact absurd hT (by decide))
               | (simp only [r8, Bool.cond_false_right, beq_self_eq_true, bne_self_eq_false, Bool.not_true, Bool.false_eq_true, reduceCtorEq] at *
                  done))
          | ((with_reducible show false = true)
             exfalso
             simp only [beq_self_eq_true, bne_self_eq_false, Bool.not_true, Bool.false_eq_true, Bool.true_eq_false, reduceCtorEq] at *
             done)
          | trace_state
    · refine VJ.of ?_
      repeat' (first | with_reducible apply andAll_cons | with_reducible apply andAll_nil | (with_reducible apply Cf.mk; kernel_rfl) | apply And.intro | intro _ | exact True.intro | apply Lf.mk)
      all_goals (try simp only [rt_eta7, iv_eta7] at *)
      all_goals first
        | with_reducible exact Eq.refl _ | exact ⟨100000, rfl⟩ | exact ⟨100001, rfl⟩
        | (exfalso
           simp only [beq_self_eq_true, bne_self_eq_false, decide_true, Bool.not_true, Bool.not_false, Bool.false_eq_true, Bool.true_eq_false, reduceCtorEq] at *
           done)
        | skip
      refine ⟨Nat, fun j => ⟨[(278, .sc (.num .i64 j))], [202490, 202640], []⟩, fun j => j ≤ (amRes (dRamV1 s) (dRamV2 s) (dRamV3 s)).1.length, fun j => (amRes (dRamV1 s) (dRamV2 s) (dRamV3 s)).1.length - j, ⟨0, Nat.zero_le _, ?_⟩, ?_⟩
      · repeat' (first | apply And.intro | exact True.intro | exact Lf.mk (by with_reducible rfl) | apply Lf.mk)
        all_goals first | rfl | trace_state
      · intro j g1
        have hst := fun h => rq_am (f := dRamV1 s) (xs := dRamV2 s) (n := dRamV3 s) (getA VK.iv.dflt (amRes (dRamV1 s) (dRamV2 s) (dRamV3 s)).1 j) (getA_mem' h)
        repeat' (first | with_reducible apply andAll_cons | with_reducible apply andAll_nil | (with_reducible apply Cf.mk; kernel_rfl) | apply And.intro | intro _ | exact True.intro | apply Lf.mk)
        all_goals (try simp only [rt_eta7, iv_eta7, List.drop_zero, List.take_length] at *)
        all_goals first
          | with_reducible exact Eq.refl _
          | omega
          | assumption
          | (have hk4 : (j : Int) < ((amRes (dRamV1 s) (dRamV2 s) (dRamV3 s)).1.length : Int) := of_decide_eq_true (by assumption)
             have e7 := hst (by omega)
             have t1 : ((j : Int)).toNat = j := by omega
             have hml := rq_aml (dRamV1 s) (dRamV2 s) (dRamV3 s)
             first
               | omega
               | (show _ < List.length _
                  omega)
               | ((with_reducible show false = true)
                  exfalso
                  simp only [t1, e7, Bool.not_true, Bool.not_false, Bool.false_eq_true, Bool.true_eq_false, reduceCtorEq] at *
                  done)
               | (refine ⟨j + 1, by omega, (show (amRes (dRamV1 s) (dRamV2 s) (dRamV3 s)).1.length - (j + 1) < (amRes (dRamV1 s) (dRamV2 s) (dRamV3 s)).1.length - j by omega), ?_⟩
                  repeat' (first | apply And.intro | exact True.intro | exact Lf.mk (by with_reducible rfl) | apply Lf.mk)
                  all_goals first | rfl | (rw [Int.natCast_add]; rfl)))
          | trace_state
end Go.Vx
namespace Go.Proofs.YtjiafbjoijffjaaGreat
open Go.Vx Go.ChangeShapes Go.WideShapes Go.ChangeAt Go.RowKit
set_option maxRecDepth 100000 in
theorem lifted_FnReturns (os : Os) (started : os.Started) (H : Type) (enc : TypeId × Value → H) :
    ReturnsInHanded {} Tryz.checked os 3 .any (Rows.fnReturnsSpec.pre6 enc Tryz.prog Tryz.f3 Rows.fnReturnsRow.domain false) (Rows.fnReturnsSpec.post enc Tryz.prog Tryz.f3 false true false false) := by
  refine returnsInHanded_of_change (C := Tryz.checked) (by kernel_rfl) started (by kernel_rfl) Tryz.func3
    (ChangeSpec.witness6 (enc := enc) (C := Tryz.checked) false ⟨#[], #[.slice none 0 0, .slice none 0 0], []⟩ 8 (by kernel_rfl) (by kernel_rfl) (by kernel_rfl) (by kernel_rfl)) ?_
  intro W base args ds gs before hval0 hW hcnd _
  exact law_post (s := s_laws_FnReturns) (by kernel_rfl) ok_laws_FnReturns (by kernel_rfl) (tb := 4) rfl (by kernel_rfl) rfl (fun x hx => by
    exact ⟨trivial, rfl⟩
    ) rfl
    (fun ds hds => by match ds, hds with | [_, _], _ => rfl) hval0 hW
theorem fnReturns_holds : Rows.FnReturnsSaid :=
  OpenClaim.holds_of_wide 3 Tryz.f3 rfl rfl rfl rfl rfl rfl rfl ⟨rfl, rfl, rfl, rfl, rfl⟩ rfl rfl rfl rfl rfl (by kernel_rfl) Tryz.func3 (by kernel_rfl)
    (of_decide_eq_true (by kernel_rfl)) (by unfold Func.isWrapper; first | (rw [if_pos (by decide +kernel)]; kernel_rfl) | (rw [if_neg (by decide +kernel)]; exact ⟨rfl, rfl⟩))
    (fun os started H enc _ => lifted_FnReturns os started H enc)
end Go.Proofs.YtjiafbjoijffjaaGreat
