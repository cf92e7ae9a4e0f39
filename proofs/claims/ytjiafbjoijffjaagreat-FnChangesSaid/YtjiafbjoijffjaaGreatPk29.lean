/- The change with given values: the program's functions and the reference's. -/
import Derived.Test.YtjiafbjoijffjaaGreatPk28
import Derived.Test.YtjiafbjoijffjaaGreatPk19
import Derived.Test.YtjiafbjoijffjaaGreatPk20
import Derived.Test.YtjiafbjoijffjaaGreatPk21
namespace Go.Vx
open Go Go.Proofs
set_option maxRecDepth 100000
set_option linter.unusedSimpArgs false
set_option linter.unusedVariables false

theorem ex_spec_DrawReturnMap : ∃ (V1 : Raw → List Pt) (V2 : Raw → Iv) (V3 : Raw → Int), (∀ (r : Raw), ((V1 r).length ≤ 62)) ∧ GSpec Tryz.prog ⟨31, [.val .raw], [.list 107 .pt, .val .iv, .val NI], fun ((r : Raw), _) => ⟨[], (V1 r, V2 r, V3 r, ()), ()⟩⟩ := by
  obtain ⟨V, O, h1, h3⟩ := fn_some (P := Tryz.prog) tab_ok fol (Known.nil.cons ok_spec_DrawImagesOf (by kernel_rfl)) (f := 31) (ks := [.val .raw]) (rs := [.list 107 .pt, .val .iv, .val NI]) (by decide) Tryz.func31 (pre := fun y => match y with | ((r : Raw), _) => []) (Q := fun y R _ => match y, R with | ((r : Raw), _), ((v1 : List Pt), (v2 : Iv), (v3 : Int), _) => v1.length ≤ 62) (by
    rintro ⟨(r : Raw), ⟨⟩⟩ hl hpre
    have h1 := dImg_ok (r := r)
    repeat' (first | with_reducible apply andAll_cons | with_reducible apply andAll_nil | (with_reducible apply Cf.mk; kernel_rfl) | apply And.intro | intro _ | exact True.intro | apply Lf.mk)
    all_goals (try dsimp only at *)
    all_goals (try simp only [cur_eta, rt_eta_, List.length_cons, List.length_nil, Nat.zero_add, Nat.reduceAdd, Int.cast_ofNat_Int] at *)
    all_goals (try simp only [Bool.not_eq_true', Bool.not_eq_false', Bool.not_not, decide_eq_true_eq, decide_eq_false_iff_not, beq_iff_eq, bne_iff_ne, beq_eq_false_iff_ne, bne_eq_false_iff_eq, ne_eq, Bool.and_eq_true, Bool.and_eq_false_iff, Bool.or_eq_true, Bool.or_eq_false_iff, Int.toNat_natCast, Nat.zero_add, Int.ofNat_lt, Int.ofNat_le, List.length_cons, List.length_nil, List.drop_zero, List.take_length] at *)
    all_goals first | ((try simp only [anyS_r, ratS_r, uniS_r, ordS_r, pickS_r, nextS_r, imGridS_r, imdS_r, anyImS_r, xofS_r, ivofS_r, rstS_r, strmS_r, homecS_r]); (first | exact ⟨100000, rfl⟩ | exact rawIn_adv (by assumption) ⟨100000, rfl⟩)) | ((repeat (first | apply pick_at | apply any_at | apply uni_at | apply ord_at | apply rat_at | apply next_at | apply imGrid_at | apply imd_at | apply anyIm_at | apply xof_at | apply ivof_at | apply rst_at | apply strm_at | apply homec_at)); exact AtOk.le (by assumption) (by first | decide | omega)) | omega | (show inI64 _; unfold inI64; omega) | (show 1 ≤ List.length _; simp; done) | (show _ * 32 ≤ 140737488355328; omega) | (show _ * 16 ≤ 140737488355328; omega) | with_reducible assumption | contradiction | exact unit_good_ (by assumption) | exact pk1 (by decide) (by decide) | exact pk2 (by decide) (by decide) | exact pk3 (by decide) (by decide) | exact pk4 (by decide) (by decide) | exact pk5 (by decide) (by decide) | skip
    all_goals (apply some_end (ks := [.val .raw]) (rs := [.list 107 .pt, .val .iv, .val NI]) (_, _, _, ()) (); (case h => ((repeat' (first | apply And.intro | exact True.intro | exact Lf.mk (by with_reducible rfl) | apply Lf.mk | with_reducible exact Eq.refl _)); all_goals (first | rfl | omega | skip))); (case q => ((try dsimp only); (first | exact trivial | omega | (rw [List.length_set]; omega) | (rw [List.length_take]; omega) | (simp only [List.length_cons, List.length_nil]; omega) | (simp; done) | skip)))))
  exact ⟨fun r => (V (r, ())).1, fun r => (V (r, ())).2.1, fun r => (V (r, ())).2.2.1, fun r => h1 (r, ()) trivial trivial, h3⟩
@[irreducible] noncomputable def dRmpV1 : Raw → List Pt := Classical.choose ex_spec_DrawReturnMap
@[irreducible] noncomputable def dRmpV2 : Raw → Iv := Classical.choose (Classical.choose_spec ex_spec_DrawReturnMap)
@[irreducible] noncomputable def dRmpV3 : Raw → Int := Classical.choose (Classical.choose_spec (Classical.choose_spec ex_spec_DrawReturnMap))
theorem dRmp_spec : (∀ (r : Raw), ((dRmpV1 r).length ≤ 62)) ∧ GSpec Tryz.prog ⟨31, [.val .raw], [.list 107 .pt, .val .iv, .val NI], fun ((r : Raw), _) => ⟨[], (dRmpV1 r, dRmpV2 r, dRmpV3 r, ()), ()⟩⟩ := by
  unfold dRmpV1 dRmpV2 dRmpV3
  exact (Classical.choose_spec (Classical.choose_spec (Classical.choose_spec ex_spec_DrawReturnMap)))
theorem dRmp_ok {r : Raw} : (dRmpV1 r).length ≤ 62 := dRmp_spec.1 r
noncomputable def s_spec_DrawReturnMap : Sig := ⟨31, [.val .raw], [.list 107 .pt, .val .iv, .val NI], fun ((r : Raw), _) => ⟨[], (dRmpV1 r, dRmpV2 r, dRmpV3 r, ()), ()⟩⟩
theorem ok_spec_DrawReturnMap : GSpec Tryz.prog s_spec_DrawReturnMap := dRmp_spec.2
set_option maxHeartbeats 1000000 in
theorem ex_cur_of3 : ∃ (V : Cur → Iv → Rt) (S : Cur → Iv → Cur), (∀ (c : Cur) (i : Iv), AtOk 20 c → (True)) ∧ (∀ (c : Cur) (i : Iv), Adv 20 c (S c i)) ∧ GSpec Tryz.prog ⟨122, [.cell 93 .cur, .val .iv], [.val .rat], fun ((c : Cur), (i : Iv), _) => ⟨[AtOk 20 c], (V c i, ()), (S c i, ())⟩⟩ := by
  obtain ⟨V, S, h1, h2, h3⟩ := some_c (P := Tryz.prog) tab_ok fol (((Known.nil.cons ok_spec_ScaleInto (by kernel_rfl)).cons ok_cur_gridRat (by kernel_rfl)).cons ok_cur_among (by kernel_rfl)) (f := 122) (t := 93) (ks := [.val .iv]) (rs := [.val .rat]) (by decide) Tryz.func122 20 (fun y => match y with | ((i : Iv), _) => []) (fun y R => match y, R with | ((i : Iv), _), ((v : Rt), _) => True) (fun _ _ => rfl) (by
    rintro c ⟨(i : Iv), ⟨⟩⟩ hl hc hpre
    have hn := among_rng c (l := [1, 2, 4]) 1 4 (by decide) (by decide)
    repeat' (first | with_reducible apply andAll_cons | with_reducible apply andAll_nil | (with_reducible apply Cf.mk; kernel_rfl) | apply And.intro | intro _ | exact True.intro | apply Lf.mk)
    all_goals (try dsimp only at *)
    all_goals (try simp only [cur_eta, rt_eta_, List.length_cons, List.length_nil, Nat.zero_add, Nat.reduceAdd, Int.cast_ofNat_Int] at *)
    all_goals (try simp only [Bool.not_eq_true', Bool.not_eq_false', Bool.not_not, decide_eq_true_eq, decide_eq_false_iff_not, beq_iff_eq, bne_iff_ne, beq_eq_false_iff_ne, bne_eq_false_iff_eq, ne_eq, Bool.and_eq_true, Bool.and_eq_false_iff, Bool.or_eq_true, Bool.or_eq_false_iff, Int.toNat_natCast, Nat.zero_add, Int.ofNat_lt, Int.ofNat_le, List.length_cons, List.length_nil, List.drop_zero, List.take_length] at *)
    all_goals first | ((try simp only [anyS_r, ratS_r, uniS_r, ordS_r, pickS_r, nextS_r, imGridS_r, imdS_r, anyImS_r, xofS_r, ivofS_r, rstS_r, strmS_r, homecS_r]); (first | exact ⟨100000, rfl⟩ | exact rawIn_adv (by assumption) ⟨100000, rfl⟩)) | ((repeat (first | apply pick_at | apply any_at | apply uni_at | apply ord_at | apply rat_at | apply next_at | apply imGrid_at | apply imd_at | apply anyIm_at | apply xof_at | apply ivof_at | apply rst_at | apply strm_at | apply homec_at)); exact AtOk.le (by assumption) (by first | decide | omega)) | omega | (show inI64 _; unfold inI64; omega) | (show 1 ≤ List.length _; simp; done) | (show _ * 32 ≤ 140737488355328; omega) | (show _ * 16 ≤ 140737488355328; omega) | with_reducible assumption | contradiction | exact unit_good_ (by assumption) | exact pk1 (by decide) (by decide) | exact pk2 (by decide) (by decide) | exact pk3 (by decide) (by decide) | exact pk4 (by decide) (by decide) | exact pk5 (by decide) (by decide) | skip
    all_goals (apply some_end (ks := [.cell 93 .cur, .val .iv]) (rs := [.val .rat]) (_, ()) (_, ()); (case h => ((repeat' (first | apply And.intro | exact True.intro | exact Lf.mk (by with_reducible rfl) | apply Lf.mk | with_reducible exact Eq.refl _)); all_goals (first | rfl | omega | skip))); (case q => ((try dsimp only); refine ⟨?_, by ((repeat (first | apply adv_pick | apply adv_any | apply adv_uni | apply adv_ord | apply adv_rat | apply adv_next | apply adv_imGrid | apply adv_imd | apply adv_anyIm | apply adv_xof | apply adv_ivof | apply adv_rst | apply adv_strm | apply adv_homec)); (first | exact Adv.refl _ _ | exact Adv.le (by assumption) (by first | decide | omega)))⟩; (first | exact trivial | omega | (rw [List.length_set]; omega) | (rw [List.length_take]; omega) | (simp only [List.length_cons, List.length_nil]; omega) | (simp; done) | skip)))))
  exact ⟨fun c i => (V c (i, ())).1, fun c i => S c (i, ()), fun c i hA => h1 c (i, ()) trivial hA trivial, fun c i => h2 c (i, ()), h3⟩
@[irreducible] noncomputable def of3dV : Cur → Iv → Rt := Classical.choose ex_cur_of3
@[irreducible] noncomputable def of3dS : Cur → Iv → Cur := Classical.choose (Classical.choose_spec ex_cur_of3)
theorem of3d_spec : (∀ (c : Cur) (i : Iv), AtOk 20 c → (True)) ∧ (∀ (c : Cur) (i : Iv), Adv 20 c (of3dS c i)) ∧ GSpec Tryz.prog ⟨122, [.cell 93 .cur, .val .iv], [.val .rat], fun ((c : Cur), (i : Iv), _) => ⟨[AtOk 20 c], (of3dV c i, ()), (of3dS c i, ())⟩⟩ := by
  unfold of3dV of3dS
  exact (Classical.choose_spec (Classical.choose_spec ex_cur_of3))
theorem of3d_ok {c : Cur} {i : Iv} (hA : AtOk 20 c) : True := of3d_spec.1 c i hA
theorem of3dS_r (c : Cur) (i : Iv) : (of3dS c i).r = c.r := (of3d_spec.2.1 c i).r
theorem of3d_at {m : Nat} {c : Cur} {i : Iv} (h : AtOk (m + 20) c) : AtOk m (of3dS c i) := (of3d_spec.2.1 c i).at_ h
theorem adv_of3d {k : Nat} {c d : Cur} {i : Iv} (h : Adv k c d) : Adv (k + 20) c (of3dS d i) := h.trans (of3d_spec.2.1 d i) (Nat.le_refl _)
noncomputable def s_cur_of3 : Sig := ⟨122, [.cell 93 .cur, .val .iv], [.val .rat], fun ((c : Cur), (i : Iv), _) => ⟨[AtOk 20 c], (of3dV c i, ()), (of3dS c i, ())⟩⟩
theorem ok_cur_of3 : GSpec Tryz.prog s_cur_of3 := of3d_spec.2.2
set_option maxHeartbeats 4000000 in
theorem ex_spec_DrawScaleInto : ∃ (V1 : Raw → Iv) (V2 : Raw → Rt), (∀ (r : Raw), (True)) ∧ GSpec Tryz.prog ⟨40, [.val .raw], [.val .iv, .val .rat], fun ((r : Raw), _) => ⟨[], (V1 r, V2 r, ()), ()⟩⟩ := by
  obtain ⟨V, O, h1, h3⟩ := fn_some (P := Tryz.prog) tab_ok fol ((Known.nil.cons ok_cur_homecoming (by kernel_rfl)).cons ok_cur_xOf (by kernel_rfl)) (f := 40) (ks := [.val .raw]) (rs := [.val .iv, .val .rat]) (by decide) Tryz.func40 (pre := fun y => match y with | ((r : Raw), _) => []) (Q := fun y R _ => match y, R with | ((r : Raw), _), ((v1 : Iv), (v2 : Rt), _) => True) (by
    rintro ⟨(r : Raw), ⟨⟩⟩ hl hpre
    have hz := cz_at r
    have h1 := homec_ok (hz.le (by decide))
    repeat' (first | with_reducible apply andAll_cons | with_reducible apply andAll_nil | (with_reducible apply Cf.mk; kernel_rfl) | apply And.intro | intro _ | exact True.intro | apply Lf.mk)
    all_goals (try dsimp only at *)
    all_goals (try simp only [cur_eta, rt_eta_, List.length_cons, List.length_nil, Nat.zero_add, Nat.reduceAdd, Int.cast_ofNat_Int] at *)
    all_goals (try simp only [Bool.not_eq_true', Bool.not_eq_false', Bool.not_not, decide_eq_true_eq, decide_eq_false_iff_not, beq_iff_eq, bne_iff_ne, beq_eq_false_iff_ne, bne_eq_false_iff_eq, ne_eq, Bool.and_eq_true, Bool.and_eq_false_iff, Bool.or_eq_true, Bool.or_eq_false_iff, Int.toNat_natCast, Nat.zero_add, Int.ofNat_lt, Int.ofNat_le, List.length_cons, List.length_nil, List.drop_zero, List.take_length] at *)
    all_goals first | ((try simp only [anyS_r, ratS_r, uniS_r, ordS_r, pickS_r, nextS_r, imGridS_r, imdS_r, anyImS_r, xofS_r, ivofS_r, rstS_r, strmS_r, homecS_r, of3dS_r]); (first | exact ⟨100000, rfl⟩ | exact rawIn_adv (by assumption) ⟨100000, rfl⟩)) | ((repeat (first | apply pick_at | apply any_at | apply uni_at | apply ord_at | apply rat_at | apply next_at | apply imGrid_at | apply imd_at | apply anyIm_at | apply xof_at | apply ivof_at | apply rst_at | apply strm_at | apply homec_at | apply of3d_at)); exact AtOk.le (by assumption) (by first | decide | omega)) | omega | (show inI64 _; unfold inI64; omega) | (show 1 ≤ List.length _; simp; done) | (show _ * 32 ≤ 140737488355328; omega) | (show _ * 16 ≤ 140737488355328; omega) | with_reducible assumption | contradiction | exact unit_good_ (by assumption) | exact pk1 (by decide) (by decide) | exact pk2 (by decide) (by decide) | exact pk3 (by decide) (by decide) | exact pk4 (by decide) (by decide) | exact pk5 (by decide) (by decide) | skip
    all_goals (apply some_end (ks := [.val .raw]) (rs := [.val .iv, .val .rat]) (_, _, ()) (); (case h => ((repeat' (first | apply And.intro | exact True.intro | exact Lf.mk (by with_reducible rfl) | apply Lf.mk | with_reducible exact Eq.refl _)); all_goals (first | rfl | omega | skip))); (case q => ((try dsimp only); (first | exact trivial | omega | (rw [List.length_set]; omega) | (rw [List.length_take]; omega) | (simp only [List.length_cons, List.length_nil]; omega) | (simp; done) | skip)))))
  exact ⟨fun r => (V (r, ())).1, fun r => (V (r, ())).2.1, fun r => h1 (r, ()) trivial trivial, h3⟩
@[irreducible] noncomputable def dSciV1 : Raw → Iv := Classical.choose ex_spec_DrawScaleInto
@[irreducible] noncomputable def dSciV2 : Raw → Rt := Classical.choose (Classical.choose_spec ex_spec_DrawScaleInto)
theorem dSci_spec : (∀ (r : Raw), (True)) ∧ GSpec Tryz.prog ⟨40, [.val .raw], [.val .iv, .val .rat], fun ((r : Raw), _) => ⟨[], (dSciV1 r, dSciV2 r, ()), ()⟩⟩ := by
  unfold dSciV1 dSciV2
  exact (Classical.choose_spec (Classical.choose_spec ex_spec_DrawScaleInto))
theorem dSci_ok {r : Raw} : True := dSci_spec.1 r
noncomputable def s_spec_DrawScaleInto : Sig := ⟨40, [.val .raw], [.val .iv, .val .rat], fun ((r : Raw), _) => ⟨[], (dSciV1 r, dSciV2 r, ()), ()⟩⟩
theorem ok_spec_DrawScaleInto : GSpec Tryz.prog s_spec_DrawScaleInto := dSci_spec.2
set_option maxHeartbeats 4000000 in
theorem ex_spec_DrawScaleOut : ∃ (V1 : Raw → Iv) (V2 : Raw → Rt), (∀ (r : Raw), (True)) ∧ GSpec Tryz.prog ⟨44, [.val .raw], [.val .iv, .val .rat], fun ((r : Raw), _) => ⟨[], (V1 r, V2 r, ()), ()⟩⟩ := by
  obtain ⟨V, O, h1, h3⟩ := fn_some (P := Tryz.prog) tab_ok fol (((((Known.nil.cons ok_cur_homecoming (by kernel_rfl)).cons ok_cur_xOf (by kernel_rfl)).cons ok_cur_one (by kernel_rfl)).cons ok_cur_of3 (by kernel_rfl)).cons ok_spec_ivGood (by kernel_rfl)) (f := 44) (ks := [.val .raw]) (rs := [.val .iv, .val .rat]) (by decide) Tryz.func44 (pre := fun y => match y with | ((r : Raw), _) => []) (Q := fun y R _ => match y, R with | ((r : Raw), _), ((v1 : Iv), (v2 : Rt), _) => True) (by
    rintro ⟨(r : Raw), ⟨⟩⟩ hl hpre
    have hz := cz_at r
    have h1 := homec_ok (hz.le (by decide))
    repeat' (first | with_reducible apply andAll_cons | with_reducible apply andAll_nil | (with_reducible apply Cf.mk; kernel_rfl) | apply And.intro | intro _ | exact True.intro | apply Lf.mk)
    all_goals (try dsimp only at *)
    all_goals (try simp only [cur_eta, rt_eta_, List.length_cons, List.length_nil, Nat.zero_add, Nat.reduceAdd, Int.cast_ofNat_Int] at *)
    all_goals (try simp only [Bool.not_eq_true', Bool.not_eq_false', Bool.not_not, decide_eq_true_eq, decide_eq_false_iff_not, beq_iff_eq, bne_iff_ne, beq_eq_false_iff_ne, bne_eq_false_iff_eq, ne_eq, Bool.and_eq_true, Bool.and_eq_false_iff, Bool.or_eq_true, Bool.or_eq_false_iff, Int.toNat_natCast, Nat.zero_add, Int.ofNat_lt, Int.ofNat_le, List.length_cons, List.length_nil, List.drop_zero, List.take_length] at *)
    all_goals first | ((try simp only [anyS_r, ratS_r, uniS_r, ordS_r, pickS_r, nextS_r, imGridS_r, imdS_r, anyImS_r, xofS_r, ivofS_r, rstS_r, strmS_r, homecS_r, of3dS_r]); (first | exact ⟨100000, rfl⟩ | exact rawIn_adv (by assumption) ⟨100000, rfl⟩)) | ((repeat (first | apply pick_at | apply any_at | apply uni_at | apply ord_at | apply rat_at | apply next_at | apply imGrid_at | apply imd_at | apply anyIm_at | apply xof_at | apply ivof_at | apply rst_at | apply strm_at | apply homec_at | apply of3d_at)); exact AtOk.le (by assumption) (by first | decide | omega)) | omega | (show inI64 _; unfold inI64; omega) | (show 1 ≤ List.length _; simp; done) | (show _ * 32 ≤ 140737488355328; omega) | (show _ * 16 ≤ 140737488355328; omega) | with_reducible assumption | contradiction | exact unit_good_ (by assumption) | exact pk1 (by decide) (by decide) | exact pk2 (by decide) (by decide) | exact pk3 (by decide) (by decide) | exact pk4 (by decide) (by decide) | exact pk5 (by decide) (by decide) | skip
    all_goals (apply some_end (ks := [.val .raw]) (rs := [.val .iv, .val .rat]) (_, _, ()) (); (case h => ((repeat' (first | apply And.intro | exact True.intro | exact Lf.mk (by with_reducible rfl) | apply Lf.mk | with_reducible exact Eq.refl _)); all_goals (first | rfl | omega | skip))); (case q => ((try dsimp only); (first | exact trivial | omega | (rw [List.length_set]; omega) | (rw [List.length_take]; omega) | (simp only [List.length_cons, List.length_nil]; omega) | (simp; done) | skip)))))
  exact ⟨fun r => (V (r, ())).1, fun r => (V (r, ())).2.1, fun r => h1 (r, ()) trivial trivial, h3⟩
@[irreducible] noncomputable def dScoV1 : Raw → Iv := Classical.choose ex_spec_DrawScaleOut
@[irreducible] noncomputable def dScoV2 : Raw → Rt := Classical.choose (Classical.choose_spec ex_spec_DrawScaleOut)
theorem dSco_spec : (∀ (r : Raw), (True)) ∧ GSpec Tryz.prog ⟨44, [.val .raw], [.val .iv, .val .rat], fun ((r : Raw), _) => ⟨[], (dScoV1 r, dScoV2 r, ()), ()⟩⟩ := by
  unfold dScoV1 dScoV2
  exact (Classical.choose_spec (Classical.choose_spec ex_spec_DrawScaleOut))
theorem dSco_ok {r : Raw} : True := dSco_spec.1 r
noncomputable def s_spec_DrawScaleOut : Sig := ⟨44, [.val .raw], [.val .iv, .val .rat], fun ((r : Raw), _) => ⟨[], (dScoV1 r, dScoV2 r, ()), ()⟩⟩
theorem ok_spec_DrawScaleOut : GSpec Tryz.prog s_spec_DrawScaleOut := dSco_spec.2
set_option maxHeartbeats 4000000 in
theorem ex_spec_DrawReturnTime : ∃ (V1 : Raw → List Pt) (V2 : Raw → Iv) (V3 : Raw → Rt) (V4 : Raw → Int), (∀ (r : Raw), ((V1 r).length ≤ 62)) ∧ GSpec Tryz.prog ⟨45, [.val .raw], [.list 107 .pt, .val .iv, .val .rat, .val NI], fun ((r : Raw), _) => ⟨[], (V1 r, V2 r, V3 r, V4 r, ()), ()⟩⟩ := by
  obtain ⟨V, O, h1, h3⟩ := fn_some (P := Tryz.prog) tab_ok fol ((((((Known.nil.cons ok_cur_homecoming (by kernel_rfl)).cons ok_cur_xOf (by kernel_rfl)).cons ok_cur_one (by kernel_rfl)).cons ok_cur_of3 (by kernel_rfl)).cons ok_spec_ivGood (by kernel_rfl)).cons ok_cur_returnSteps (by kernel_rfl)) (f := 45) (ks := [.val .raw]) (rs := [.list 107 .pt, .val .iv, .val .rat, .val NI]) (by decide) Tryz.func45 (pre := fun y => match y with | ((r : Raw), _) => []) (Q := fun y R _ => match y, R with | ((r : Raw), _), ((v1 : List Pt), (v2 : Iv), (v3 : Rt), (v4 : Int), _) => v1.length ≤ 62) (by
    rintro ⟨(r : Raw), ⟨⟩⟩ hl hpre
    have hz := cz_at r
    have h1 := homec_ok (hz.le (by decide))
    repeat' (first | with_reducible apply andAll_cons | with_reducible apply andAll_nil | (with_reducible apply Cf.mk; kernel_rfl) | apply And.intro | intro _ | exact True.intro | apply Lf.mk)
    all_goals (try dsimp only at *)
    all_goals (try simp only [cur_eta, rt_eta_, List.length_cons, List.length_nil, Nat.zero_add, Nat.reduceAdd, Int.cast_ofNat_Int] at *)
    all_goals (try simp only [Bool.not_eq_true', Bool.not_eq_false', Bool.not_not, decide_eq_true_eq, decide_eq_false_iff_not, beq_iff_eq, bne_iff_ne, beq_eq_false_iff_ne, bne_eq_false_iff_eq, ne_eq, Bool.and_eq_true, Bool.and_eq_false_iff, Bool.or_eq_true, Bool.or_eq_false_iff, Int.toNat_natCast, Nat.zero_add, Int.ofNat_lt, Int.ofNat_le, List.length_cons, List.length_nil, List.drop_zero, List.take_length] at *)
    all_goals first | ((try simp only [anyS_r, ratS_r, uniS_r, ordS_r, pickS_r, nextS_r, imGridS_r, imdS_r, anyImS_r, xofS_r, ivofS_r, rstS_r, strmS_r, homecS_r, of3dS_r]); (first | exact ⟨100000, rfl⟩ | exact rawIn_adv (by assumption) ⟨100000, rfl⟩)) | ((repeat (first | apply pick_at | apply any_at | apply uni_at | apply ord_at | apply rat_at | apply next_at | apply imGrid_at | apply imd_at | apply anyIm_at | apply xof_at | apply ivof_at | apply rst_at | apply strm_at | apply homec_at | apply of3d_at)); exact AtOk.le (by assumption) (by first | decide | omega)) | omega | (show inI64 _; unfold inI64; omega) | (show 1 ≤ List.length _; simp; done) | (show _ * 32 ≤ 140737488355328; omega) | (show _ * 16 ≤ 140737488355328; omega) | with_reducible assumption | contradiction | exact unit_good_ (by assumption) | exact pk1 (by decide) (by decide) | exact pk2 (by decide) (by decide) | exact pk3 (by decide) (by decide) | exact pk4 (by decide) (by decide) | exact pk5 (by decide) (by decide) | skip
    all_goals (apply some_end (ks := [.val .raw]) (rs := [.list 107 .pt, .val .iv, .val .rat, .val NI]) (_, _, _, _, ()) (); (case h => ((repeat' (first | apply And.intro | exact True.intro | exact Lf.mk (by with_reducible rfl) | apply Lf.mk | with_reducible exact Eq.refl _)); all_goals (first | rfl | omega | skip))); (case q => ((try dsimp only); (first | exact trivial | omega | (rw [List.length_set]; omega) | (rw [List.length_take]; omega) | (simp only [List.length_cons, List.length_nil]; omega) | (simp; done) | skip)))))
  exact ⟨fun r => (V (r, ())).1, fun r => (V (r, ())).2.1, fun r => (V (r, ())).2.2.1, fun r => (V (r, ())).2.2.2.1, fun r => h1 (r, ()) trivial trivial, h3⟩
@[irreducible] noncomputable def dRtiV1 : Raw → List Pt := Classical.choose ex_spec_DrawReturnTime
@[irreducible] noncomputable def dRtiV2 : Raw → Iv := Classical.choose (Classical.choose_spec ex_spec_DrawReturnTime)
@[irreducible] noncomputable def dRtiV3 : Raw → Rt := Classical.choose (Classical.choose_spec (Classical.choose_spec ex_spec_DrawReturnTime))
@[irreducible] noncomputable def dRtiV4 : Raw → Int := Classical.choose (Classical.choose_spec (Classical.choose_spec (Classical.choose_spec ex_spec_DrawReturnTime)))
theorem dRti_spec : (∀ (r : Raw), ((dRtiV1 r).length ≤ 62)) ∧ GSpec Tryz.prog ⟨45, [.val .raw], [.list 107 .pt, .val .iv, .val .rat, .val NI], fun ((r : Raw), _) => ⟨[], (dRtiV1 r, dRtiV2 r, dRtiV3 r, dRtiV4 r, ()), ()⟩⟩ := by
  unfold dRtiV1 dRtiV2 dRtiV3 dRtiV4
  exact (Classical.choose_spec (Classical.choose_spec (Classical.choose_spec (Classical.choose_spec ex_spec_DrawReturnTime))))
theorem dRti_ok {r : Raw} : (dRtiV1 r).length ≤ 62 := dRti_spec.1 r
noncomputable def s_spec_DrawReturnTime : Sig := ⟨45, [.val .raw], [.list 107 .pt, .val .iv, .val .rat, .val NI], fun ((r : Raw), _) => ⟨[], (dRtiV1 r, dRtiV2 r, dRtiV3 r, dRtiV4 r, ()), ()⟩⟩
theorem ok_spec_DrawReturnTime : GSpec Tryz.prog s_spec_DrawReturnTime := dRti_spec.2
set_option maxHeartbeats 4000000 in
theorem ex_spec_DrawPartInto : ∃ (V1 : Raw → List Pt) (V2 : Raw → Iv), (∀ (r : Raw), ((V1 r).length ≤ 62)) ∧ GSpec Tryz.prog ⟨49, [.val .raw], [.list 107 .pt, .val .iv], fun ((r : Raw), _) => ⟨[], (V1 r, V2 r, ()), ()⟩⟩ := by
  obtain ⟨V, O, h1, h3⟩ := fn_some (P := Tryz.prog) tab_ok fol (((Known.nil.cons ok_cur_homecoming (by kernel_rfl)).cons ok_cur_one (by kernel_rfl)).cons ok_cur_anyIm (by kernel_rfl)) (f := 49) (ks := [.val .raw]) (rs := [.list 107 .pt, .val .iv]) (by decide) Tryz.func49 (pre := fun y => match y with | ((r : Raw), _) => []) (Q := fun y R _ => match y, R with | ((r : Raw), _), ((v1 : List Pt), (v2 : Iv), _) => v1.length ≤ 62) (by
    rintro ⟨(r : Raw), ⟨⟩⟩ hl hpre
    have hz := cz_at r
    have h1 := homec_ok (hz.le (by decide))
    have h2 := anyIm_ok (c := pickS (homecS ⟨r, 0, 0⟩) 3) (by ((repeat (first | apply pick_at | apply any_at | apply uni_at | apply ord_at | apply rat_at | apply next_at | apply imGrid_at | apply imd_at | apply anyIm_at | apply xof_at | apply ivof_at | apply rst_at | apply strm_at | apply homec_at | apply of3d_at)); exact AtOk.le (by assumption) (by first | decide | omega)))
    repeat' (first | with_reducible apply andAll_cons | with_reducible apply andAll_nil | (with_reducible apply Cf.mk; kernel_rfl) | apply And.intro | intro _ | exact True.intro | apply Lf.mk)
    all_goals (try dsimp only at *)
    all_goals (try simp only [cur_eta, rt_eta_, List.length_cons, List.length_nil, Nat.zero_add, Nat.reduceAdd, Int.cast_ofNat_Int] at *)
    all_goals (try simp only [Bool.not_eq_true', Bool.not_eq_false', Bool.not_not, decide_eq_true_eq, decide_eq_false_iff_not, beq_iff_eq, bne_iff_ne, beq_eq_false_iff_ne, bne_eq_false_iff_eq, ne_eq, Bool.and_eq_true, Bool.and_eq_false_iff, Bool.or_eq_true, Bool.or_eq_false_iff, Int.toNat_natCast, Nat.zero_add, Int.ofNat_lt, Int.ofNat_le, List.length_cons, List.length_nil, List.drop_zero, List.take_length] at *)
    all_goals first | ((try simp only [anyS_r, ratS_r, uniS_r, ordS_r, pickS_r, nextS_r, imGridS_r, imdS_r, anyImS_r, xofS_r, ivofS_r, rstS_r, strmS_r, homecS_r, of3dS_r]); (first | exact ⟨100000, rfl⟩ | exact rawIn_adv (by assumption) ⟨100000, rfl⟩)) | ((repeat (first | apply pick_at | apply any_at | apply uni_at | apply ord_at | apply rat_at | apply next_at | apply imGrid_at | apply imd_at | apply anyIm_at | apply xof_at | apply ivof_at | apply rst_at | apply strm_at | apply homec_at | apply of3d_at)); exact AtOk.le (by assumption) (by first | decide | omega)) | omega | (show inI64 _; unfold inI64; omega) | (show 1 ≤ List.length _; simp; done) | (show _ * 32 ≤ 140737488355328; omega) | (show _ * 16 ≤ 140737488355328; omega) | with_reducible assumption | contradiction | exact unit_good_ (by assumption) | exact pk1 (by decide) (by decide) | exact pk2 (by decide) (by decide) | exact pk3 (by decide) (by decide) | exact pk4 (by decide) (by decide) | exact pk5 (by decide) (by decide) | skip
    all_goals (apply some_end (ks := [.val .raw]) (rs := [.list 107 .pt, .val .iv]) (_, _, ()) (); (case h => ((repeat' (first | apply And.intro | exact True.intro | exact Lf.mk (by with_reducible rfl) | apply Lf.mk | with_reducible exact Eq.refl _)); all_goals (first | rfl | omega | skip))); (case q => ((try dsimp only); (first | exact trivial | omega | (rw [List.length_set]; omega) | (rw [List.length_take]; omega) | (simp only [List.length_cons, List.length_nil]; omega) | (simp; done) | skip)))))
  exact ⟨fun r => (V (r, ())).1, fun r => (V (r, ())).2.1, fun r => h1 (r, ()) trivial trivial, h3⟩
@[irreducible] noncomputable def dPaiV1 : Raw → List Pt := Classical.choose ex_spec_DrawPartInto
@[irreducible] noncomputable def dPaiV2 : Raw → Iv := Classical.choose (Classical.choose_spec ex_spec_DrawPartInto)
theorem dPai_spec : (∀ (r : Raw), ((dPaiV1 r).length ≤ 62)) ∧ GSpec Tryz.prog ⟨49, [.val .raw], [.list 107 .pt, .val .iv], fun ((r : Raw), _) => ⟨[], (dPaiV1 r, dPaiV2 r, ()), ()⟩⟩ := by
  unfold dPaiV1 dPaiV2
  exact (Classical.choose_spec (Classical.choose_spec ex_spec_DrawPartInto))
theorem dPai_ok {r : Raw} : (dPaiV1 r).length ≤ 62 := dPai_spec.1 r
noncomputable def s_spec_DrawPartInto : Sig := ⟨49, [.val .raw], [.list 107 .pt, .val .iv], fun ((r : Raw), _) => ⟨[], (dPaiV1 r, dPaiV2 r, ()), ()⟩⟩
theorem ok_spec_DrawPartInto : GSpec Tryz.prog s_spec_DrawPartInto := dPai_spec.2
end Go.Vx
namespace Go.Vx
open Go Go.Proofs
set_option maxRecDepth 100000
set_option linter.unusedSimpArgs false
set_option linter.unusedVariables false

noncomputable def cbRes (h : List Pt) (y : Rt) : Rt × Bool := match chOk h && unitRt y with
  | true => chB h y
  | false => (⟨0, 0⟩, false)
theorem cb_f1 {h : List Pt} {y : Rt} (hc : chOk h = false) : cbRes h y = (⟨0, 0⟩, false) := by unfold cbRes; rw [hc]; rfl
theorem cb_f2 {h : List Pt} {y : Rt} (hc : unitRt y = false) : cbRes h y = (⟨0, 0⟩, false) := by unfold cbRes; rw [hc]; cases chOk h <;> rfl
theorem cb_t {h : List Pt} {y : Rt} (hc : chOk h = true) (hy : unitRt y = true) : cbRes h y = chB h y := by unfold cbRes; rw [hc, hy]; rfl
noncomputable def s_impl_ChangeBack : Sig := ⟨53, [.list .pt, .val .rat], [.val .rat, .val .bool], fun ((h : List Pt), (y : Rt), _) => ⟨[], ((cbRes h y).1, (cbRes h y).2, ()), ()⟩⟩
noncomputable def s_spec_ChangeBack : Sig := ⟨54, [.list .pt, .val .rat], [.val .rat, .val .bool], fun ((h : List Pt), (y : Rt), _) => ⟨[], ((cbRes h y).1, (cbRes h y).2, ()), ()⟩⟩
theorem ok_impl_ChangeBack : GSpec Tryz.prog s_impl_ChangeBack := by
  refine fn_known tab_ok fol (((Known.nil.cons ok_impl_isChange (by kernel_rfl)).cons ok_impl_isUnit (by kernel_rfl)).cons ok_calc_changeBack (by kernel_rfl)) (by decide) Tryz.func53 ?_
  rintro ⟨(h : List Pt), ⟨(n : Int), (d : Int)⟩, ⟨⟩⟩ - -
  repeat' (first | with_reducible apply andAll_cons | with_reducible apply andAll_nil | (with_reducible apply Cf.mk; kernel_rfl) | apply And.intro | intro _ | exact True.intro | apply Lf.mk)
  all_goals (try simp only [Bool.not_eq_true', Bool.not_eq_false', Bool.not_not, decide_eq_true_eq, decide_eq_false_iff_not, beq_iff_eq, bne_iff_ne, beq_eq_false_iff_ne, bne_eq_false_iff_eq, ne_eq, Bool.and_eq_true, Bool.and_eq_false_iff, Bool.or_eq_true, Bool.or_eq_false_iff, Int.toNat_natCast, Nat.zero_add, Int.ofNat_lt, Int.ofNat_le, List.length_cons, List.length_nil, List.drop_zero, List.take_length] at *)
  all_goals first
    | assumption
    | (rw [cb_f1 (by assumption)]; done)
    | (rw [cb_f2 (by assumption)]; done)
    | skip
  all_goals rename_i q1 q2 q3
  · rw [cb_t q1 q2, chB_bad (q3.resolve_left Bool.noConfusion)]
  · rw [cb_t q1 q2, chB_bad (q3.resolve_left Bool.noConfusion)]
  · rw [cb_t q1 q2]; exact chO_t q3.2
  · rw [cb_t q1 q2]; exact q3.2.symm
theorem ok_spec_ChangeBack : GSpec Tryz.prog s_spec_ChangeBack := by
  refine fn_known tab_ok fol (((Known.nil.cons ok_spec_cjGood (by kernel_rfl)).cons ok_spec_raUnit (by kernel_rfl)).cons ok_spec_cjBack (by kernel_rfl)) (by decide) Tryz.func54 ?_
  rintro ⟨(h : List Pt), ⟨(n : Int), (d : Int)⟩, ⟨⟩⟩ - -
  repeat' (first | with_reducible apply andAll_cons | with_reducible apply andAll_nil | (with_reducible apply Cf.mk; kernel_rfl) | apply And.intro | intro _ | exact True.intro | apply Lf.mk)
  all_goals (try simp only [Bool.not_eq_true', Bool.not_eq_false', Bool.not_not, decide_eq_true_eq, decide_eq_false_iff_not, beq_iff_eq, bne_iff_ne, beq_eq_false_iff_ne, bne_eq_false_iff_eq, ne_eq, Bool.and_eq_true, Bool.and_eq_false_iff, Bool.or_eq_true, Bool.or_eq_false_iff, Int.toNat_natCast, Nat.zero_add, Int.ofNat_lt, Int.ofNat_le, List.length_cons, List.length_nil, List.drop_zero, List.take_length] at *)
  all_goals first
    | assumption
    | (rw [cb_f1 (by assumption)]; done)
    | (rw [cb_f2 (by assumption)]; done)
    | (rw [cb_t (by assumption) (by assumption)]; done)
    | skip
noncomputable def cvOk (f h : List Pt) (x : Rt) : Bool := mapOk f && (chOk h && unitRt x)
noncomputable def cnRes (f h : List Pt) (x : Rt) : Rt × Bool := match cvOk f h x with
  | true => match (chB h x).2 with
    | true => match (vR f (chB h x).1).2 with
      | true => vR h (vR f (chB h x).1).1
      | false => (⟨0, 0⟩, false)
    | false => (⟨0, 0⟩, false)
  | false => (⟨0, 0⟩, false)
theorem cn_f1 {f h : List Pt} {x : Rt} (hc : mapOk f = false) : cnRes f h x = (⟨0, 0⟩, false) := by unfold cnRes cvOk; rw [hc]; rfl
theorem cn_f2 {f h : List Pt} {x : Rt} (hc : chOk h = false) : cnRes f h x = (⟨0, 0⟩, false) := by unfold cnRes cvOk; rw [hc]; cases mapOk f <;> rfl
theorem cn_f3 {f h : List Pt} {x : Rt} (hc : unitRt x = false) : cnRes f h x = (⟨0, 0⟩, false) := by unfold cnRes cvOk; rw [hc]; cases mapOk f <;> cases chOk h <;> rfl
theorem cn_b1 {f h : List Pt} {x : Rt} (h1 : (chB h x).2 = false) : cnRes f h x = (⟨0, 0⟩, false) := by unfold cnRes; rw [h1]; cases cvOk f h x <;> rfl
theorem cn_b2 {f h : List Pt} {x : Rt} (h1 : (chB h x).2 = true) (h2 : (vR f (chB h x).1).2 = false) : cnRes f h x = (⟨0, 0⟩, false) := by unfold cnRes; rw [h1, h2]; cases cvOk f h x <;> rfl
theorem cn_t {f h : List Pt} {x : Rt} (k1 : mapOk f = true) (k2 : chOk h = true) (k3 : unitRt x = true) (h1 : (chB h x).2 = true) (h2 : (vR f (chB h x).1).2 = true) : cnRes f h x = vR h (vR f (chB h x).1).1 := by unfold cnRes cvOk; rw [k1, k2, k3, h1, h2]; rfl
theorem ch_map {h : List Pt} (hc : chOk h = true) : mapOk h = true := (chOk_iff.1 hc).1
section
variable {f h : List Pt} {x : Rt}
theorem chO_unit (hc : chOk h = true) (hx : unitRt x = true) (hB : (chB h x).2 = true) : unitRt (chO h x) = true := by rw [chO_t hB]; exact chB_unit hc hx hB
theorem cn_bad1 (hh : false = true ∨ (chB h x).2 = false) : cnRes f h x = (⟨0, 0⟩, false) := cn_b1 (hh.resolve_left Bool.noConfusion)
theorem cn_bad2 (hh : (false = true ∨ (chB h x).2 = false) ∨ (vR f (chO h x)).2 = false) : cnRes f h x = (⟨0, 0⟩, false) := by
  rcases hh with hh | hh
  · exact cn_bad1 hh
  · cases hB : (chB h x).2 with
    | false => exact cn_b1 hB
    | true => rw [chO_t hB] at hh; exact cn_b2 hB hh
theorem cn_bad3 (k1 : mapOk f = true) (k2 : chOk h = true) (k3 : unitRt x = true) (hh : ((false = true ∨ (chB h x).2 = false) ∨ (vR f (chO h x)).2 = false) ∨ (vR h (vO f (chO h x))).2 = false) : cnRes f h x = (⟨0, 0⟩, false) := by
  rcases hh with hh | hh
  · exact cn_bad2 hh
  · cases hB : (chB h x).2 with
    | false => exact cn_b1 hB
    | true =>
      rw [chO_t hB] at hh
      cases hV : (vR f (chB h x).1).2 with
      | false => exact cn_b2 hB hV
      | true => rw [vO_t hV] at hh; rw [cn_t k1 k2 k3 hB hV, vR_bad hh]
theorem cn_ok (k1 : mapOk f = true) (k2 : chOk h = true) (k3 : unitRt x = true) (hh : ((True ∧ (chB h x).2 = true) ∧ (vR f (chO h x)).2 = true) ∧ (vR h (vO f (chO h x))).2 = true) : (vO h (vO f (chO h x)), true) = cnRes f h x := by
  obtain ⟨⟨⟨_, hB⟩, hV⟩, hW⟩ := hh
  rw [chO_t hB] at hV hW ⊢
  rw [vO_t hV] at hW ⊢
  rw [cn_t k1 k2 k3 hB hV, vO_t hW]
  exact Prod.ext rfl hW.symm
theorem cn_con1 (h1 : false = true ∨ (chB h x).2 = false) (h2 : True ∧ (chB h x).2 = true) : False := by
  rcases h1 with h1 | h1
  · cases h1
  · rw [h2.2] at h1; cases h1
theorem cn_con2 {y : Rt} (h1 : (false = true ∨ (chB h x).2 = false) ∨ (vR f y).2 = false) (h2 : (True ∧ (chB h x).2 = true) ∧ (vR f y).2 = true) : False := by
  rcases h1 with h1 | h1
  · exact cn_con1 h1 h2.1
  · rw [h2.2] at h1; cases h1
end
end Go.Vx
namespace Go.Vx
open Go Go.Proofs
set_option maxRecDepth 100000
set_option linter.unusedSimpArgs false
set_option linter.unusedVariables false

noncomputable def inn1 (x : Rt) : Bool := unitRt x && (!(x.num == 0) && !(x.num == x.den))
noncomputable def innB (l : List Rt) : Bool := l.all inn1 && risR l
theorem eq_zero_num {x : Rt} (h : unitRt x = true) : eqRt ⟨0, 1⟩ x = (x.num == 0) := by
  have hg := unit_good h
  rw [Bool.eq_iff_iff, beq_iff_eq, eqRt_dec, decide_eq_true_eq]
  constructor
  · intro e; rw [← e]
  · intro e; exact (good_eq hg good_zero (by rw [e]; simp)).symm
theorem eq_one_num {x : Rt} (h : unitRt x = true) : eqRt ⟨1, 1⟩ x = (x.num == x.den) := by
  have hg := unit_good h
  rw [Bool.eq_iff_iff, beq_iff_eq, eqRt_dec, decide_eq_true_eq]
  constructor
  · intro e; rw [← e]
  · intro e; exact (good_eq hg good_one (by rw [e]; simp)).symm
theorem inn_eq (l : List Rt) : (((l.all unitRt && risR l) && !(l.any fun y => eqRt ⟨0, 1⟩ y)) && !(l.any fun y => eqRt ⟨1, 1⟩ y)) = innB l := by
  unfold innB
  rw [Bool.eq_iff_iff]
  simp only [Bool.and_eq_true, Bool.not_eq_true', List.any_eq_false, List.all_eq_true]
  constructor
  · intro ⟨⟨⟨h1, h2⟩, h3⟩, h4⟩
    refine ⟨fun x hx => ?_, h2⟩
    have a := h3 x hx
    have b := h4 x hx
    rw [eq_zero_num (h1 x hx)] at a
    rw [eq_one_num (h1 x hx)] at b
    unfold inn1
    rw [h1 x hx, Bool.eq_false_iff.2 a, Bool.eq_false_iff.2 b]; rfl
  · intro ⟨h1, h2⟩
    have hu : ∀ x ∈ l, unitRt x = true ∧ (x.num == 0) = false ∧ (x.num == x.den) = false := fun x hx => by
      have := h1 x hx
      unfold inn1 at this
      simpa using this
    refine ⟨⟨⟨fun x hx => (hu x hx).1, h2⟩, fun x hx => ?_⟩, fun x hx => ?_⟩
    · rw [eq_zero_num (hu x hx).1, (hu x hx).2.1]; exact Bool.noConfusion
    · rw [eq_one_num (hu x hx).1, (hu x hx).2.2]; exact Bool.noConfusion
theorem inn_unit {l : List Rt} (h : innB l = true) : ∀ x ∈ l, unitRt x = true := fun x hx => by
  unfold innB at h
  rw [Bool.and_eq_true, List.all_eq_true] at h
  have := h.1 x hx
  unfold inn1 at this
  rw [Bool.and_eq_true] at this
  exact this.1
noncomputable def s_lib_ContainsRat : Sig := ⟨204, [.list .rat, .val .rat], [.val .bool], fun ((l : List Rt), (x : Rt), _) => ⟨[], (l.any (fun y => eqRt x y), ()), ()⟩⟩
theorem ok_lib_ContainsRat : GSpec Tryz.prog s_lib_ContainsRat := by
  refine fn_known tab_ok fol (Known.nil.cons ok_lib_IndexRat (by kernel_rfl)) (by decide) Tryz.func204 ?_
  rintro ⟨(l : List Rt), ⟨(n : Int), (d : Int)⟩, ⟨⟩⟩ - _
  repeat' (first | with_reducible apply andAll_cons | with_reducible apply andAll_nil | (with_reducible apply Cf.mk; kernel_rfl) | apply And.intro | intro _ | exact True.intro | apply Lf.mk)
  all_goals (try simp only [Bool.not_eq_true', Bool.not_eq_false', Bool.not_not, decide_eq_true_eq, decide_eq_false_iff_not, beq_iff_eq, bne_iff_ne, beq_eq_false_iff_ne, bne_eq_false_iff_eq, ne_eq, Bool.and_eq_true, Bool.and_eq_false_iff, Bool.or_eq_true, Bool.or_eq_false_iff, Int.toNat_natCast, Nat.zero_add, Int.ofNat_lt, Int.ofNat_le, List.length_cons, List.length_nil, List.drop_zero, List.take_length] at *)
  exact idxF_any
noncomputable def s_impl_areInner : Sig := ⟨140, [.list .rat], [.val .bool], fun ((l : List Rt), _) => ⟨[], (innB l, ()), ()⟩⟩
noncomputable def s_spec_cjInner : Sig := ⟨143, [.list .rat], [.val .bool], fun ((l : List Rt), _) => ⟨[], (innB l, ()), ()⟩⟩
theorem ok_impl_areInner : GSpec Tryz.prog s_impl_areInner := by
  refine fn_known tab_ok fol (((((Known.nil.cons ok_impl_areUnits (by kernel_rfl)).cons ok_impl_isRising (by kernel_rfl)).cons ok_impl_zero (by kernel_rfl)).cons ok_impl_oneRat (by kernel_rfl)).cons ok_lib_ContainsRat (by kernel_rfl)) (by decide) Tryz.func140 ?_
  rintro ⟨(l : List Rt), ⟨⟩⟩ ⟨hl, _⟩ -
  have hl : l.length ≤ 9223372036854775807 := hl
  repeat' (first | with_reducible apply andAll_cons | with_reducible apply andAll_nil | (with_reducible apply Cf.mk; kernel_rfl) | apply And.intro | intro _ | exact True.intro | apply Lf.mk)
  all_goals (try simp only [cond_and, List.drop_zero, List.take_length, Nat.zero_add] at *)
  all_goals first
    | omega
    | contradiction
    | exact inn_eq l
    | exact unit_good (List.all_eq_true.1 (by assumption : l.all unitRt = true) _ (by assumption))
    | (rw [← inn_eq l]; simp only [*, Bool.and_true, Bool.true_and, Bool.false_and, Bool.and_false]; done)
    | (rw [← inn_eq l, (by assumption : (!l.any fun y => eqRt ⟨0, 1⟩ y) = false)]; simp; done)
    | skip
noncomputable def s_spec_ivRising : Sig := ⟨205, [.list .rat], [.val .bool], fun ((l : List Rt), _) => ⟨[∀ x ∈ l, unitRt x = true], (risR l, ()), ()⟩⟩
theorem bI' {C P Q : Bool} (h : (bif !C then true else bif P then Q else false) = true) (h2 : C = true) : Q = true := by revert h h2; cases C <;> cases P <;> cases Q <;> decide
theorem bJ' {C P Q : Bool} (h : (bif !C then true else bif P then Q else false) = false) (h2 : P = true) : Q = false := by revert h h2; cases C <;> cases P <;> cases Q <;> decide
theorem bK' {C : Bool} (h : (bif !C then true else false) = true) (h2 : C = true) : False := by revert h h2; cases C <;> decide
theorem ris_no {l : List Rt} {i : Nat} (hi : i < l.length) (h0 : (0 : Int) < i) (h : ¬ ltR (getA zR l ((i : Int) - 1).toNat) (getA zR l i)) : false = risR l := by
  symm; rw [Bool.eq_false_iff]; intro h3
  have := risR_iff.1 h3 (i - 1) (by omega)
  rw [pred_nat h0] at h
  rw [show i - 1 + 1 = i by omega] at this
  exact h this
theorem inn_get {l : List Rt} (h : innB l = true) {i : Nat} (hi : i < l.length) : inn1 (getA zR l i) = true := by
  unfold innB at h; rw [Bool.and_eq_true, List.all_eq_true] at h; exact h.1 _ (getA_mem _ hi)
theorem inn_no {l : List Rt} {i : Nat} (hi : i < l.length) (h : inn1 (getA zR l i) = false) : false = innB l := by
  symm; rw [Bool.eq_false_iff]; intro h2; rw [inn_get h2 hi] at h; cases h
theorem inn_noz {l : List Rt} {i : Nat} (hi : i < l.length) (h : (getA zR l i).num = 0) : false = innB l := inn_no hi (by unfold inn1; rw [h]; simp)
theorem inn_noo {l : List Rt} {i : Nat} (hi : i < l.length) (h : (getA zR l i).num = (getA zR l i).den) : false = innB l := inn_no hi (by unfold inn1; rw [h]; simp)
theorem inn_nou {l : List Rt} {i : Nat} (hi : i < l.length) (h : unitRt (getA zR l i) = false) : false = innB l := inn_no hi (by unfold inn1; rw [h]; rfl)
theorem inn_ofall {l : List Rt} {i : Nat} (hi : ¬ i < l.length) (g1 : i ≤ l.length) (g2 : (l.take i).all inn1 = true) : ∀ x ∈ l, unitRt x = true := fun x hx => by
  rw [List.take_of_length_le (by omega), List.all_eq_true] at g2
  have := g2 x hx
  unfold inn1 at this; rw [Bool.and_eq_true] at this; exact this.1
theorem inn_fin {l : List Rt} {i : Nat} (hi : ¬ i < l.length) (g1 : i ≤ l.length) (g2 : (l.take i).all inn1 = true) : risR l = innB l := by
  rw [List.take_of_length_le (by omega)] at g2
  unfold innB; rw [g2]; rfl
theorem ok_spec_ivRising : GSpec Tryz.prog s_spec_ivRising := by
  refine fn_known tab_ok fol ((Known.nil.cons ok_spec_raUnit (by kernel_rfl)).cons ok_spec_raCmp (by kernel_rfl)) (by decide) Tryz.func205 ?_
  rintro ⟨(l : List Rt), ⟨⟩⟩ ⟨hl, _⟩ ⟨hu, _⟩
  have hl : l.length ≤ 9223372036854775807 := hl
  have hg : ∀ i, i < l.length → unitRt (getA zR l i) = true := fun i hi => hu _ (getA_mem _ hi)
  refine ⟨Nat, fun i => ⟨[(7, .sc (.num .i64 i))], [100000], []⟩, fun i => i ≤ l.length ∧ ∀ j, j + 1 < i → ltR (getA zR l j) (getA zR l (j + 1)), fun i => l.length - i, ⟨0, ⟨Nat.zero_le _, fun j hj => by omega⟩, ?_⟩, ?_⟩
  · repeat' (first | apply And.intro | exact True.intro | exact Lf.mk (by with_reducible rfl) | apply Lf.mk)
    all_goals rfl
  · rintro i ⟨g1, g3⟩
    repeat' (first | with_reducible apply andAll_cons | with_reducible apply andAll_nil | (with_reducible apply Cf.mk; kernel_rfl) | apply And.intro | intro _ | exact True.intro | apply Lf.mk)
    all_goals (try simp only [Bool.not_eq_true', Bool.not_eq_false', Bool.not_not, decide_eq_true_eq, decide_eq_false_iff_not, beq_iff_eq, bne_iff_ne, beq_eq_false_iff_ne, bne_eq_false_iff_eq, ne_eq, Bool.and_eq_true, Bool.and_eq_false_iff, Bool.or_eq_true, Bool.or_eq_false_iff, Int.toNat_natCast, Nat.zero_add, Int.ofNat_lt, Int.ofNat_le, List.length_cons, List.length_nil, List.drop_zero, List.take_length] at *)
    all_goals first
      | omega
      | contradiction
      | exact unit_good (hg _ (by omega))
      | exact absurd ((hg i (by assumption)).symm.trans (by assumption : unitRt (getA zR l i) = false)) Bool.noConfusion
      | exact ris_no (by assumption) (by assumption) (cmp_ge (bI' (by assumption) (by assumption)))
      | exact (bK' (by assumption) (by assumption)).elim
      | skip
    · rename_i q1 q2 q3 q4
      have h8 := cmp_lt (bJ' q4 (decide_eq_true q3))
      rw [pred_nat q3] at h8
      refine ⟨i + 1, ⟨by omega, fun j hj => ?_⟩, by omega, ?_⟩
      · rcases Nat.lt_or_eq_of_le (Nat.le_of_lt_succ hj) with h7 | h7
        · exact g3 j h7
        · rw [show j = i - 1 by omega, show i - 1 + 1 = i by omega]; exact h8
      · repeat' (first | apply And.intro | exact True.intro | exact Lf.mk (by with_reducible rfl) | apply Lf.mk)
        all_goals (rw [Int.natCast_add]; rfl)
    · rename_i q1 q2 q3 q4
      refine ⟨i + 1, ⟨by omega, fun j hj => by omega⟩, by omega, ?_⟩
      repeat' (first | apply And.intro | exact True.intro | exact Lf.mk (by with_reducible rfl) | apply Lf.mk)
      all_goals (rw [Int.natCast_add]; rfl)
    · exact (risR_iff.2 fun j hj => g3 j (by omega)).symm
theorem ok_spec_cjInner : GSpec Tryz.prog s_spec_cjInner := by
  refine fn_known tab_ok fol ((Known.nil.cons ok_spec_raUnit (by kernel_rfl)).cons ok_spec_ivRising (by kernel_rfl)) (by decide) Tryz.func143 ?_
  rintro ⟨(l : List Rt), ⟨⟩⟩ ⟨hl, _⟩ -
  have hl : l.length ≤ 9223372036854775807 := hl
  refine ⟨Nat, fun i => ⟨[(7, .sc (.num .i64 i))], [100000], []⟩, fun i => i ≤ l.length ∧ (l.take i).all inn1 = true, fun i => l.length - i, ⟨0, ⟨Nat.zero_le _, rfl⟩, ?_⟩, ?_⟩
  · repeat' (first | apply And.intro | exact True.intro | exact Lf.mk (by with_reducible rfl) | apply Lf.mk)
    all_goals rfl
  · rintro i ⟨g1, g2⟩
    repeat' (first | with_reducible apply andAll_cons | with_reducible apply andAll_nil | (with_reducible apply Cf.mk; kernel_rfl) | apply And.intro | intro _ | exact True.intro | apply Lf.mk)
    all_goals (try simp only [Bool.not_eq_true', Bool.not_eq_false', Bool.not_not, decide_eq_true_eq, decide_eq_false_iff_not, beq_iff_eq, bne_iff_ne, beq_eq_false_iff_ne, bne_eq_false_iff_eq, ne_eq, Bool.and_eq_true, Bool.and_eq_false_iff, Bool.or_eq_true, Bool.or_eq_false_iff, Int.toNat_natCast, Nat.zero_add, Int.ofNat_lt, Int.ofNat_le, List.length_cons, List.length_nil, List.drop_zero, List.take_length] at *)
    all_goals first
      | omega
      | contradiction
      | exact inn_noz (by assumption) (by assumption)
      | exact inn_noo (by assumption) (by assumption)
      | exact inn_nou (by assumption) (by assumption)
      | exact inn_ofall (by assumption) g1 g2 _ (by assumption)
      | exact inn_fin (by assumption) g1 g2
      | skip
    rename_i q1 q2 q3 q4
    refine ⟨i + 1, ⟨by omega, ?_⟩, by omega, ?_⟩
    · rw [all_take_succ _ zR l i q1, g2]
      show (true && inn1 (getA zR l i)) = true
      unfold inn1
      have q2 : unitRt (getA zR l i) = true := q2
      have q3 : (getA zR l i).num ≠ 0 := q3
      have q4 : (getA zR l i).num ≠ (getA zR l i).den := q4
      rw [q2, beq_false_of_ne q3, beq_false_of_ne q4]; rfl
    · repeat' (first | apply And.intro | exact True.intro | exact Lf.mk (by with_reducible rfl) | apply Lf.mk)
      all_goals (rw [Int.natCast_add]; rfl)
/-- the points of the change: the first i inner ones behind 0 -/
def thR (a b : List Rt) (i : Nat) : List Pt := ⟨⟨0, 1⟩, ⟨0, 1⟩⟩ :: (List.range i).map fun k => ⟨getA zR a k, getA zR b k⟩
theorem thR_length (a b : List Rt) (i : Nat) : (thR a b i).length = i + 1 := by simp [thR]
theorem thR_succ (a b : List Rt) (i : Nat) : thR a b i ++ [⟨getA zR a i, getA zR b i⟩] = thR a b (i + 1) := by
  unfold thR; rw [List.range_succ, List.map_append]; rfl
def thL (a b : List Rt) : List Pt := thR a b a.length ++ [⟨⟨1, 1⟩, ⟨1, 1⟩⟩]
noncomputable def thOk (a b : List Rt) : Bool := innB a && (innB b && (decide (a.length = b.length) && mapOk (thL a b)))
noncomputable def thRes (a b : List Rt) : List Pt × Bool := match thOk a b with
  | true => (thL a b, true)
  | false => ([], false)
theorem th_f1 {a b : List Rt} (h : innB a = false) : thRes a b = ([], false) := by unfold thRes thOk; rw [h]; rfl
theorem th_f2 {a b : List Rt} (h : innB b = false) : thRes a b = ([], false) := by unfold thRes thOk; rw [h]; cases innB a <;> rfl
theorem th_f3 {a b : List Rt} (h : ¬ a.length = b.length) : thRes a b = ([], false) := by unfold thRes thOk; rw [decide_eq_false h]; cases innB a <;> cases innB b <;> rfl
theorem th_f4 {a b : List Rt} (h : mapOk (thL a b) = false) : thRes a b = ([], false) := by unfold thRes thOk; rw [h]; cases innB a <;> cases innB b <;> cases decide (a.length = b.length) <;> rfl
theorem th_t {a b : List Rt} (h1 : innB a = true) (h2 : innB b = true) (h3 : a.length = b.length) (h4 : mapOk (thL a b) = true) : thRes a b = (thL a b, true) := by unfold thRes thOk; rw [h1, h2, decide_eq_true h3, h4]; rfl
theorem thL_length (a b : List Rt) : (thL a b).length = a.length + 2 := by unfold thL; rw [List.length_append, thR_length]; rfl
theorem th_f5 {a b : List Rt} (h : (12 : Int) < a.length) : thRes a b = ([], false) := by
  apply th_f4
  rw [Bool.eq_false_iff]; intro h2
  have := (mapOk_iff.1 h2).1
  rw [thL_length] at this; omega
theorem th_len (a b : List Rt) : (thRes a b).1.length ≤ 12 := by
  cases h : mapOk (thL a b) with
  | false => rw [th_f4 h]; exact Nat.zero_le _
  | true =>
    have := (mapOk_iff.1 h).1
    cases h2 : thOk a b with
    | false => unfold thRes; rw [h2]; exact Nat.zero_le _
    | true => unfold thRes; rw [h2]; exact this.2
theorem thL_no {a b : List Rt} {i : Nat} (hi : ¬ i < a.length) (g1 : i ≤ a.length) (h : mapOk (thR a b i ++ [⟨⟨1, 1⟩, ⟨1, 1⟩⟩]) = false) : mapOk (thL a b) = false := by
  rw [show i = a.length by omega] at h; exact h
theorem thL_yes {a b : List Rt} {i : Nat} (h1 : innB a = true) (h2 : innB b = true) (h3 : a.length = b.length) (hi : ¬ i < a.length) (g1 : i ≤ a.length) (h : mapOk (thR a b i ++ [⟨⟨1, 1⟩, ⟨1, 1⟩⟩]) = true) : (thR a b i ++ [⟨⟨1, 1⟩, ⟨1, 1⟩⟩], true) = thRes a b := by
  rw [show i = a.length by omega] at h ⊢
  exact (th_t h1 h2 h3 h).symm
noncomputable def s_impl_ChangeThrough : Sig := ⟨58, [.list .rat, .list .rat], [.list 107 .pt, .val .bool], fun ((a : List Rt), (b : List Rt), _) => ⟨[a.length ≤ 1000000000], ((thRes a b).1, (thRes a b).2, ()), ()⟩⟩
noncomputable def s_spec_ChangeThrough : Sig := ⟨59, [.list .rat, .list .rat], [.list 107 .pt, .val .bool], fun ((a : List Rt), (b : List Rt), _) => ⟨[a.length ≤ 1000000000], ((thRes a b).1, (thRes a b).2, ()), ()⟩⟩
theorem ok_impl_ChangeThrough : GSpec Tryz.prog s_impl_ChangeThrough := by
  refine fn_known tab_ok fol ((((Known.nil.cons ok_impl_areInner (by kernel_rfl)).cons ok_impl_zero (by kernel_rfl)).cons ok_impl_oneRat (by kernel_rfl)).cons ok_impl_isMap (by kernel_rfl)) (by decide) Tryz.func58 ?_
  rintro ⟨(a : List Rt), (b : List Rt), ⟨⟩⟩ - ⟨ha, _⟩
  repeat' (first | with_reducible apply andAll_cons | with_reducible apply andAll_nil | (with_reducible apply Cf.mk; kernel_rfl) | apply And.intro | intro _ | exact True.intro | apply Lf.mk)
  all_goals (try simp only [Bool.not_eq_true', Bool.not_eq_false', Bool.not_not, decide_eq_true_eq, decide_eq_false_iff_not, beq_iff_eq, bne_iff_ne, beq_eq_false_iff_ne, bne_eq_false_iff_eq, ne_eq, Bool.and_eq_true, Bool.and_eq_false_iff, Bool.or_eq_true, Bool.or_eq_false_iff, Int.toNat_natCast, Nat.zero_add, Int.ofNat_lt, Int.ofNat_le, List.length_cons, List.length_nil, List.drop_zero, List.take_length] at *)
  all_goals first
    | omega
    | contradiction
    | (rw [th_f1 (by assumption)]; done)
    | (rw [th_f2 (by assumption)]; done)
    | (rw [th_f3 (by omega)]; done)
    | skip
  rename_i q1 q2 q3
  refine ⟨Nat, fun i => ⟨[(29, .sc (.num .i64 i)), (6, .sc (.own 7777777))], [100000, 100001], [(7777777, .row 107 .pt (thR a b i))]⟩, fun i => i ≤ a.length, fun i => a.length - i, ⟨0, Nat.zero_le _, ?_⟩, ?_⟩
  · repeat' (first | apply And.intro | exact True.intro | exact Lf.mk (by with_reducible rfl) | apply Lf.mk)
    all_goals rfl
  · intro i g1
    have hm := thR_length a b i
    repeat' (first | with_reducible apply andAll_cons | with_reducible apply andAll_nil | (with_reducible apply Cf.mk; kernel_rfl) | apply And.intro | intro _ | exact True.intro | apply Lf.mk)
    all_goals (try simp only [Bool.not_eq_true', Bool.not_eq_false', Bool.not_not, decide_eq_true_eq, decide_eq_false_iff_not, beq_iff_eq, bne_iff_ne, beq_eq_false_iff_ne, bne_eq_false_iff_eq, ne_eq, Bool.and_eq_true, Bool.and_eq_false_iff, Bool.or_eq_true, Bool.or_eq_false_iff, Int.toNat_natCast, Nat.zero_add, Int.ofNat_lt, Int.ofNat_le, List.length_cons, List.length_nil, List.drop_zero, List.take_length] at *)
    all_goals first
      | omega
      | (show (_ + 1) * 32 ≤ 140737488355328; omega)
      | (rw [th_f4 (thL_no (by assumption) g1 (by assumption))]; done)
      | exact congrArg Prod.fst (thL_yes q1 q2 (by omega) (by assumption) g1 (by assumption))
      | exact congrArg Prod.snd (thL_yes q1 q2 (by omega) (by assumption) g1 (by assumption))
      | skip
    refine ⟨i + 1, by omega, by omega, ?_⟩
    repeat' (first | apply And.intro | exact True.intro | exact Lf.mk (by with_reducible rfl) | apply Lf.mk)
    all_goals first | (rw [Int.natCast_add]; rfl) | exact thR_succ a b i
theorem ok_spec_ChangeThrough : GSpec Tryz.prog s_spec_ChangeThrough := by
  refine fn_known tab_ok fol (((Known.nil.cons ok_spec_cjInner (by kernel_rfl)).cons ok_spec_raInt (by kernel_rfl)).cons ok_spec_imGood (by kernel_rfl)) (by decide) Tryz.func59 ?_
  rintro ⟨(a : List Rt), (b : List Rt), ⟨⟩⟩ - ⟨ha, _⟩
  repeat' (first | with_reducible apply andAll_cons | with_reducible apply andAll_nil | (with_reducible apply Cf.mk; kernel_rfl) | apply And.intro | intro _ | exact True.intro | apply Lf.mk)
  all_goals (try simp only [Bool.not_eq_true', Bool.not_eq_false', Bool.not_not, decide_eq_true_eq, decide_eq_false_iff_not, beq_iff_eq, bne_iff_ne, beq_eq_false_iff_ne, bne_eq_false_iff_eq, ne_eq, Bool.and_eq_true, Bool.and_eq_false_iff, Bool.or_eq_true, Bool.or_eq_false_iff, Int.toNat_natCast, Nat.zero_add, Int.ofNat_lt, Int.ofNat_le, List.length_cons, List.length_nil, List.drop_zero, List.take_length] at *)
  all_goals first
    | omega
    | contradiction
    | (rw [th_f1 (by assumption)]; done)
    | (rw [th_f2 (by assumption)]; done)
    | (rw [th_f3 (by omega)]; done)
    | (rw [th_f5 (by omega)]; done)
    | skip
  rename_i q3 q0 q1 q2
  refine ⟨Nat, fun i => ⟨[(35, .sc (.num .i64 i)), (6, .sc (.own 7777777))], [100000, 100001], [(7777777, .row 107 .pt (thR a b i))]⟩, fun i => i ≤ a.length, fun i => a.length - i, ⟨0, Nat.zero_le _, ?_⟩, ?_⟩
  · repeat' (first | apply And.intro | exact True.intro | exact Lf.mk (by with_reducible rfl) | apply Lf.mk)
    all_goals rfl
  · intro i g1
    have hm := thR_length a b i
    repeat' (first | with_reducible apply andAll_cons | with_reducible apply andAll_nil | (with_reducible apply Cf.mk; kernel_rfl) | apply And.intro | intro _ | exact True.intro | apply Lf.mk)
    all_goals (try simp only [Bool.not_eq_true', Bool.not_eq_false', Bool.not_not, decide_eq_true_eq, decide_eq_false_iff_not, beq_iff_eq, bne_iff_ne, beq_eq_false_iff_ne, bne_eq_false_iff_eq, ne_eq, Bool.and_eq_true, Bool.and_eq_false_iff, Bool.or_eq_true, Bool.or_eq_false_iff, Int.toNat_natCast, Nat.zero_add, Int.ofNat_lt, Int.ofNat_le, List.length_cons, List.length_nil, List.drop_zero, List.take_length] at *)
    all_goals first
      | omega
      | (show (_ + 1) * 32 ≤ 140737488355328; omega)
      | (rw [th_f4 (thL_no (by assumption) g1 (by assumption))]; done)
      | exact congrArg Prod.fst (thL_yes q1 q2 (by omega) (by assumption) g1 (by assumption))
      | exact congrArg Prod.snd (thL_yes q1 q2 (by omega) (by assumption) g1 (by assumption))
      | skip
    refine ⟨i + 1, by omega, by omega, ?_⟩
    repeat' (first | apply And.intro | exact True.intro | exact Lf.mk (by with_reducible rfl) | apply Lf.mk)
    all_goals first | (rw [Int.natCast_add]; rfl) | exact thR_succ a b i
end Go.Vx
