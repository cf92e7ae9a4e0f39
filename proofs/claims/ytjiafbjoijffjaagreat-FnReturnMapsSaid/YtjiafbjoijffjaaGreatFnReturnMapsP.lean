/- For all arguments the law FnReturnMaps returns true; there are no further conditions. -/
import Derived.Test.YtjiafbjoijffjaaGreatPk10
import Derived.Test.YtjiafbjoijffjaaGreatPk11
import Derived.Test.YtjiafbjoijffjaaGreatPk24
import Derived.Test.YtjiafbjoijffjaaGreatPk25
import Derived.Test.YtjiafbjoijffjaaGreatPk29
namespace Go.Vx
open Go Go.Proofs
set_option maxRecDepth 100000
set_option linter.unusedSimpArgs false
set_option linter.unusedVariables false

noncomputable def s_laws_FnReturnMaps : Sig := ⟨5, [.val .raw, .val .raw], [.val .bool], fun ((_ : Raw), (_ : Raw), _) => ⟨[], (true, ()), ()⟩⟩
theorem eqRt_self5 (x : Rt) : eqRt x x = true := by simp [eqRt]
theorem rt_eta5 (x : Rt) : (⟨x.num, x.den⟩ : Rt) = x := rfl
theorem iv_eta5 (x : Iv) : (⟨x.a, x.b⟩ : Iv) = x := rfl
theorem eqIv_self5 (x : Iv) : eqIv x x = true := by simp [eqIv]
set_option maxHeartbeats 40000000 in
theorem ok_laws_FnReturnMaps : GSpec Tryz.prog s_laws_FnReturnMaps := by
  refine fn_knownJ none tab_ok fol ((((((((((((((((((((((((((Known.nil.cons ok_laws_big (by kernel_rfl)).cons ok_spec_DrawReturnMap (by kernel_rfl)).cons ok_impl_ReturnMap (by kernel_rfl)).cons ok_spec_ReturnMap (by kernel_rfl)).cons ok_laws_pSameMap (by kernel_rfl)).cons ok_impl_ReturnsAfter (by kernel_rfl)).cons ok_impl_IsMap (by kernel_rfl)).cons ok_spec_MakeRat (by kernel_rfl)).cons ok_spec_ScaleInto (by kernel_rfl)).cons ok_spec_IterateMap (by kernel_rfl)).cons ok_spec_ScaleOut (by kernel_rfl)).cons ok_impl_ValueAt (by kernel_rfl)).cons ok_spec_ValueAt (by kernel_rfl)).cons ok_spec_DrawScaleInto (by kernel_rfl)).cons ok_impl_ScaleInto (by kernel_rfl)).cons ok_impl_ScaleOut (by kernel_rfl)).cons ok_laws_pWithin (by kernel_rfl)).cons ok_spec_DrawScaleOut (by kernel_rfl)).cons ok_spec_DrawReturnTime (by kernel_rfl)).cons ok_impl_ReturnTime (by kernel_rfl)).cons ok_spec_ReturnTime (by kernel_rfl)).cons ok_impl_IterateMap (by kernel_rfl)).cons ok_spec_DrawPartInto (by kernel_rfl)).cons ok_impl_PartInto (by kernel_rfl)).cons ok_spec_PartInto (by kernel_rfl)).cons ok_laws_pLess (by kernel_rfl)) (by decide) Tryz.func5 ?_
  rintro ⟨(r : Raw), (s : Raw), ⟨⟩⟩ hl _
  refine VJ.upto 6 ?_
  repeat' (first | with_reducible apply andAll_cons | with_reducible apply andAll_nil | (with_reducible apply Cf.mk; kernel_rfl) | apply And.intro | intro _ | exact True.intro | apply Lf.mk)
  all_goals first
    | with_reducible exact Eq.refl _ | exact ⟨100000, rfl⟩ | exact ⟨100001, rfl⟩
    | (show _ = true
       exfalso
       simp only [eqRt_self5, beq_self_eq_true, bne_self_eq_false, decide_true, Bool.not_true, Bool.not_false, Bool.false_eq_true, Bool.true_eq_false, reduceCtorEq] at *
       done)
    | skip
  refine VJ.cut ⟨[], [], []⟩ ?_ ?_
  · repeat' (first | with_reducible apply andAll_cons | with_reducible apply andAll_nil | (with_reducible apply Cf.mk; kernel_rfl) | apply And.intro | intro _ | exact True.intro | apply Lf.mk)
    all_goals first
      | with_reducible exact Eq.refl _
      | skip
    all_goals (have hr : (rmRes (dRmpV1 r) (dRmpV2 r) (dRmpV3 r)).2 = true := (by assumption))
    all_goals (have hk := rm_ok hr)
    all_goals (have hk1 : (raRes (dRmpV1 r) (dRmpV2 r) (dRmpV3 r)).1 = true := congrArg Prod.fst hk.1)
    all_goals (have hk2 : (raRes (dRmpV1 r) (dRmpV2 r) (dRmpV3 r)).2 = true := congrArg Prod.snd hk.1)
    all_goals (have hk3 := hk.2.2.2.2.2.1)
    all_goals first
      | ((with_reducible show false = true)
         exfalso
         have e0 : (!(raRes (dRmpV1 r) (dRmpV2 r) (dRmpV3 r)).2) = true := (by assumption)
         rw [hk2] at e0; exact absurd e0 (by decide))
      | ((with_reducible show false = true)
         exfalso
         have e0 : (!(raRes (dRmpV1 r) (dRmpV2 r) (dRmpV3 r)).1) = true := (by assumption)
         rw [hk1] at e0; exact absurd e0 (by decide))
      | ((with_reducible show false = true)
         exfalso
         have e0 : (!mapOk (rmRes (dRmpV1 r) (dRmpV2 r) (dRmpV3 r)).1) = true := (by assumption)
         rw [hk3] at e0; exact absurd e0 (by decide))
      | skip
    refine ⟨Nat, fun k => ⟨[(14, .sc (.num .i64 k))], [6, 200660, 200740, 200810], []⟩, fun k => k ≤ 5, fun k => 5 - k, ⟨0, by omega, ?_⟩, ?_⟩
    · repeat' (first | apply And.intro | exact True.intro | exact Lf.mk (by with_reducible rfl) | apply Lf.mk)
      all_goals rfl
    · intro k g1
      have hv := fun x h1 h2 h3 h4 => rn_val (f := dRmpV1 r) (i := dRmpV2 r) (n := dRmpV3 r) (x := x) hr h1 h2 h3 h4
      repeat' (first | with_reducible apply andAll_cons | with_reducible apply andAll_nil | (with_reducible apply Cf.mk; kernel_rfl) | apply And.intro | intro _ | exact True.intro | apply Lf.mk)
      all_goals (try (have hk4 : (k : Int) ≤ 4 := of_decide_eq_true (by assumption)))
      all_goals first
        | omega
        | ((with_reducible show false = true)
           exfalso
           simp only [rt_eta5, iv_eta5, eqRt_self5, beq_self_eq_true, bne_self_eq_false, decide_true, Bool.not_true, Bool.not_false, Bool.false_eq_true, Bool.true_eq_false, reduceCtorEq] at *
           done)
        | ((with_reducible show false = true)
           exfalso
           simp only [rt_eta5, iv_eta5] at *
           have e := hv _ (by assumption) (by assumption) (by assumption) (by assumption)
           simp only [e, eqRt_self5, Bool.not_true, Bool.false_eq_true, reduceCtorEq] at *
           done)
        | skip
      all_goals (
        refine ⟨k + 1, by omega, by (dsimp only; omega), ?_⟩
        repeat' (first | apply And.intro | exact True.intro | exact Lf.mk (by with_reducible rfl) | apply Lf.mk)
        all_goals first | rfl | (rw [Int.natCast_add]; rfl) | trace_state)
  · refine VJ.upto 4 ?_
    repeat' (first | with_reducible apply andAll_cons | with_reducible apply andAll_nil | (with_reducible apply Cf.mk; kernel_rfl) | apply And.intro | intro _ | exact True.intro | apply Lf.mk)
    all_goals first
      | with_reducible exact Eq.refl _ | exact ⟨100000, rfl⟩ | exact ⟨100001, rfl⟩
      | (show _ = true
         exfalso
         simp only [rt_eta5, iv_eta5, eqRt_self5, beq_self_eq_true, bne_self_eq_false, decide_true, Bool.not_true, Bool.not_false, Bool.false_eq_true, Bool.true_eq_false, reduceCtorEq] at *
         done)
      | skip
    refine VJ.cut ⟨[], [], []⟩ ?_ ?_
    · repeat' (first | with_reducible apply andAll_cons | with_reducible apply andAll_nil | (with_reducible apply Cf.mk; kernel_rfl) | apply And.intro | intro _ | exact True.intro | apply Lf.mk)
      all_goals first
        | with_reducible exact Eq.refl _
        | skip
      all_goals (have hs : (siRes (dSciV1 s) (dSciV2 s)).2 = true := (by assumption))
      all_goals (have hq := si_q hs)
      all_goals first
        | ((with_reducible show goodRt _ = true); first | exact (iv_q hq.1).1 | exact (iv_q hq.1).2.1 | exact unit_good hq.2.2.1)
        | ((with_reducible show false = true)
           exfalso
           have h3 : (soRes (dSciV1 s) (siRes (dSciV1 s) (dSciV2 s)).1).2 = true := (by assumption)
           have e := so_si hs h3
           simp only [rt_eta5, iv_eta5, e, eqRt_self5, Bool.not_true, Bool.false_eq_true, reduceCtorEq] at *
           done)
        | ((with_reducible show false = true)
           exfalso
           have e := (has_iff hq.1 (unit_good hq.2.2.1)).2 ⟨hq.2.2.2.1, hq.2.2.2.2.1⟩
           simp only [rt_eta5, iv_eta5, e, Bool.not_true, Bool.false_eq_true, reduceCtorEq] at *
           done)
        | ((with_reducible show false = true)
           exfalso
           simp only [rt_eta5, iv_eta5, eqRt_self5, beq_self_eq_true, bne_self_eq_false, decide_true, Bool.not_true, Bool.not_false, Bool.false_eq_true, Bool.true_eq_false, reduceCtorEq] at *
           done)
        | skip
      all_goals trace_state
    · refine VJ.upto 7 ?_
      repeat' (first | with_reducible apply andAll_cons | with_reducible apply andAll_nil | (with_reducible apply Cf.mk; kernel_rfl) | apply And.intro | intro _ | exact True.intro | apply Lf.mk)
      all_goals first
        | with_reducible exact Eq.refl _ | exact ⟨100000, rfl⟩ | exact ⟨100001, rfl⟩
        | (show _ = true
           exfalso
           simp only [rt_eta5, iv_eta5, eqRt_self5, beq_self_eq_true, bne_self_eq_false, decide_true, Bool.not_true, Bool.not_false, Bool.false_eq_true, Bool.true_eq_false, reduceCtorEq] at *
           done)
        | skip
      refine VJ.cut ⟨[], [], []⟩ ?_ ?_
      · repeat' (first | with_reducible apply andAll_cons | with_reducible apply andAll_nil | (with_reducible apply Cf.mk; kernel_rfl) | apply And.intro | intro _ | exact True.intro | apply Lf.mk)
        all_goals first
          | with_reducible exact Eq.refl _
          | skip
        all_goals (have hs : (rtRes (dRtiV1 s) (dRtiV2 s) (dRtiV3 s) (dRtiV4 s)).2 = true := (by assumption))
        all_goals (have hq := rt_ok hs)
        all_goals (have q1 := hq.1)
        all_goals (have q2 := hq.2.1)
        all_goals (have q3 := hq.2.2.2.1)
        all_goals (have q4 := hq.2.2.2.2.2)
        all_goals first
          | ((with_reducible show goodRt _ = true); first | exact (iv_q hq.2.2.1).1 | exact (iv_q hq.2.2.1).2.1 | exact hq.2.2.2.2.1)
          | ((with_reducible show false = true)
             exfalso
             simp only [rt_eta5, iv_eta5, q3, q4, eqRt_self5, beq_self_eq_true, bne_self_eq_false, decide_true, decide_eq_true_eq, Bool.not_true, Bool.not_false, Bool.false_eq_true, Bool.true_eq_false, reduceCtorEq] at *
             first | done | omega)
          | ((with_reducible show false = true)
             exfalso
             simp only [rt_eta5, iv_eta5, q3, q4, eqRt_self5, beq_self_eq_true, bne_self_eq_false, decide_true, decide_eq_true_eq, Bool.not_true, Bool.not_false, Bool.false_eq_true, Bool.true_eq_false, reduceCtorEq] at *
             done)
          | skip
        all_goals trace_state
      · refine VJ.of ?_
        repeat' (first | with_reducible apply andAll_cons | with_reducible apply andAll_nil | (with_reducible apply Cf.mk; kernel_rfl) | apply And.intro | intro _ | exact True.intro | apply Lf.mk)
        all_goals first
          | with_reducible exact Eq.refl _ | exact ⟨100000, rfl⟩ | exact ⟨100001, rfl⟩
          | skip
        all_goals (try (have hs : (ptRes (dPaiV1 s) (dPaiV2 s)).2 = true := (by first | assumption | (have z : (!(ptRes (dPaiV1 s) (dPaiV2 s)).2) = false := (by assumption); simpa using z))))
        all_goals (try (have hq := part_in hs))
        all_goals (try (have e1 := hq.1))
        all_goals (try (have e2 := hq.2.1))
        all_goals (try unfold lessRt at e1 e2)
        all_goals first
          | ((with_reducible show goodRt _ = true); first | exact hq.2.2.1 | exact hq.2.2.2.1 | exact hq.2.2.2.2.1 | exact hq.2.2.2.2.2)
          | (simp only [rt_eta5, iv_eta5, eqIv_self5, e1, e2, beq_self_eq_true, bne_self_eq_false, decide_true, Bool.not_true, Bool.not_false, Bool.false_eq_true, Bool.true_eq_false, reduceCtorEq] at *
             done)
          | (exfalso
             simp only [rt_eta5, iv_eta5, eqIv_self5, e1, e2, beq_self_eq_true, bne_self_eq_false, decide_true, Bool.not_true, Bool.not_false, Bool.false_eq_true, Bool.true_eq_false, reduceCtorEq] at *
             done)
          | (exfalso
             simp only [rt_eta5, iv_eta5, eqIv_self5, beq_self_eq_true, bne_self_eq_false, decide_true, Bool.not_true, Bool.not_false, Bool.false_eq_true, Bool.true_eq_false, reduceCtorEq] at *
             done)
          | trace_state
end Go.Vx
namespace Go.Proofs.YtjiafbjoijffjaaGreat
open Go.Vx Go.ChangeShapes Go.WideShapes Go.ChangeAt Go.RowKit
set_option maxRecDepth 100000 in
theorem lifted_FnReturnMaps (os : Os) (started : os.Started) (H : Type) (enc : TypeId × Value → H) :
    ReturnsInHanded {} Tryz.checked os 5 .any (Rows.fnReturnMapsSpec.pre6 enc Tryz.prog Tryz.f5 Rows.fnReturnMapsRow.domain false) (Rows.fnReturnMapsSpec.post enc Tryz.prog Tryz.f5 false true false false) := by
  refine returnsInHanded_of_change (C := Tryz.checked) (by kernel_rfl) started (by kernel_rfl) Tryz.func5
    (ChangeSpec.witness6 (enc := enc) (C := Tryz.checked) false ⟨#[], #[.slice none 0 0, .slice none 0 0], []⟩ 8 (by kernel_rfl) (by kernel_rfl) (by kernel_rfl) (by kernel_rfl)) ?_
  intro W base args ds gs before hval0 hW hcnd _
  exact law_post (s := s_laws_FnReturnMaps) (by kernel_rfl) ok_laws_FnReturnMaps (by kernel_rfl) (tb := 4) rfl (by kernel_rfl) rfl (fun x hx => by
    exact ⟨trivial, rfl⟩
    ) rfl
    (fun ds hds => by match ds, hds with | [_, _], _ => rfl) hval0 hW
theorem fnReturnMaps_holds : Rows.FnReturnMapsSaid :=
  OpenClaim.holds_of_wide 5 Tryz.f5 rfl rfl rfl rfl rfl rfl rfl ⟨rfl, rfl, rfl, rfl, rfl⟩ rfl rfl rfl rfl rfl (by kernel_rfl) Tryz.func5 (by kernel_rfl)
    (of_decide_eq_true (by kernel_rfl)) (by unfold Func.isWrapper; first | (rw [if_pos (by decide +kernel)]; kernel_rfl) | (rw [if_neg (by decide +kernel)]; exact ⟨rfl, rfl⟩))
    (fun os started H enc _ => lifted_FnReturnMaps os started H enc)
end Go.Proofs.YtjiafbjoijffjaaGreat
