/- What is drawn: families of lifts. -/
import Derived.Test.YtalgocopemmelaaGreatDoorVxXc
namespace Go.Vx
open Go Go.Proofs
set_option maxRecDepth 100000
set_option linter.unusedSimpArgs false
set_option linter.unusedVariables false

set_option maxHeartbeats 4000000 in
theorem ex_cur_turning : ∃ (V : Cur → List Pt) (S : Cur → Cur), (∀ (c : Cur), AtOk 420 c → ((V c).length ≤ 62)) ∧ (∀ (c : Cur), Adv 420 c (S c)) ∧ GSpec Tryz.prog ⟨41, [.cell 56 .cur], [.lift 76 .pt], fun ((c : Cur), _) => ⟨[AtOk 420 c], (V c, ()), (S c, ())⟩⟩ := by
  obtain ⟨V, S, h1, h2, h3⟩ := some_c (P := Tryz.prog) tab_ok fol ((((Known.nil.cons ok_cur_one (by kernel_rfl)).cons ok_cur_anyLift (by kernel_rfl)).cons ok_cur_liftGrid (by kernel_rfl)).cons ok_cur_among (by kernel_rfl)) (f := 41) (t := 56) (ks := []) (rs := [.lift 76 .pt]) (by decide) Tryz.func41 420 (fun y => match y with | (_) => []) (fun y R => match y, R with | (_), ((v : List Pt), _) => v.length ≤ 62) (fun _ _ => rfl) (by
    rintro c ⟨⟩ hl hc hpre
    have h1 := alft_ok (c := pickS c 5) (by ((repeat (first | apply pick_at | apply any_at | apply uni_at | apply ord_at | apply rat_at | apply next_at | apply famz_at | apply stair_at | apply lgrid_at | apply lft_at | apply alft_at)); exact AtOk.le (by assumption) (by first | decide | omega)))
    have hn := among_rng (pickS c 5) (l := [2, 3, 4, 4, 6]) 1 100 (by decide) (by decide)
    have hA : AtOk 300 (pickS (pickS c 5) 5) := by ((repeat (first | apply pick_at | apply any_at | apply uni_at | apply ord_at | apply rat_at | apply next_at | apply famz_at | apply stair_at | apply lgrid_at | apply lft_at | apply alft_at)); exact AtOk.le (by assumption) (by first | decide | omega))
    have h2 := lgrid_ok (n := amongV (pickS c 5) [2, 3, 4, 4, 6]) hA hn.1 hn.2
    repeat' (first | with_reducible apply andAll_cons | with_reducible apply andAll_nil | (with_reducible apply Cf.mk; kernel_rfl) | apply And.intro | intro _ | exact True.intro | apply Lf.mk)
    all_goals (try dsimp only at *)
    all_goals (try simp only [cur_eta, rt_eta_, List.length_cons, List.length_nil, Nat.zero_add, Nat.reduceAdd, Int.cast_ofNat_Int] at *)
    all_goals (try simp only [Bool.not_eq_true', Bool.not_eq_false', Bool.not_not, decide_eq_true_eq, decide_eq_false_iff_not, beq_iff_eq, bne_iff_ne, beq_eq_false_iff_ne, bne_eq_false_iff_eq, ne_eq, Bool.and_eq_true, Bool.and_eq_false_iff, Bool.or_eq_true, Bool.or_eq_false_iff, Int.toNat_natCast, Nat.zero_add, Int.ofNat_lt, Int.ofNat_le, List.length_cons, List.length_nil, List.drop_zero, List.take_length] at *)
    all_goals first | ((try simp only [anyS_r, ratS_r, uniS_r, ordS_r, pickS_r, nextS_r, famzS_r, stairS_r, lgridS_r, lftS_r, alftS_r]); (first | exact ⟨100000, rfl⟩ | exact rawIn_adv (by assumption) ⟨100000, rfl⟩)) | ((repeat (first | apply pick_at | apply any_at | apply uni_at | apply ord_at | apply rat_at | apply next_at | apply famz_at | apply stair_at | apply lgrid_at | apply lft_at | apply alft_at)); exact AtOk.le (by assumption) (by first | decide | omega)) | omega | (show inI64 _; unfold inI64; omega) | (show 1 ≤ List.length _; simp; done) | (show _ * 32 ≤ 140737488355328; omega) | (show _ * 16 ≤ 140737488355328; omega) | with_reducible assumption | contradiction | exact unit_good_ (by assumption) | exact pk1 (by decide) (by decide) | exact pk2 (by decide) (by decide) | exact pk3 (by decide) (by decide) | exact pk4 (by decide) (by decide) | exact pk5 (by decide) (by decide) | skip
    all_goals (apply some_end (ks := [.cell 56 .cur]) (rs := [.lift 76 .pt]) (_, ()) (_, ()); (case h => ((repeat' (first | apply And.intro | exact True.intro | exact Lf.mk (by with_reducible rfl) | apply Lf.mk | with_reducible exact Eq.refl _)); all_goals (first | rfl | omega | skip))); (case q => ((try dsimp only); refine ⟨?_, by ((repeat (first | apply adv_pick | apply adv_any | apply adv_uni | apply adv_ord | apply adv_rat | apply adv_next | apply adv_famz | apply adv_stair | apply adv_lgrid | apply adv_lft | apply adv_alft)); (first | exact Adv.refl _ _ | exact Adv.le (by assumption) (by first | decide | omega)))⟩; (first | exact trivial | omega | (rw [List.length_set]; omega) | (rw [List.length_take]; omega) | (simp only [List.length_cons, List.length_nil]; omega) | (simp; done) | skip)))))
  exact ⟨fun c => (V c ()).1, fun c => S c (), fun c hA => h1 c () trivial hA trivial, fun c => h2 c (), h3⟩
@[irreducible] noncomputable def turnV : Cur → List Pt := Classical.choose ex_cur_turning
@[irreducible] noncomputable def turnS : Cur → Cur := Classical.choose (Classical.choose_spec ex_cur_turning)
theorem turn_spec : (∀ (c : Cur), AtOk 420 c → ((turnV c).length ≤ 62)) ∧ (∀ (c : Cur), Adv 420 c (turnS c)) ∧ GSpec Tryz.prog ⟨41, [.cell 56 .cur], [.lift 76 .pt], fun ((c : Cur), _) => ⟨[AtOk 420 c], (turnV c, ()), (turnS c, ())⟩⟩ := by
  unfold turnV turnS
  exact (Classical.choose_spec (Classical.choose_spec ex_cur_turning))
theorem turn_ok {c : Cur} (hA : AtOk 420 c) : (turnV c).length ≤ 62 := turn_spec.1 c hA
theorem turnS_r (c : Cur) : (turnS c).r = c.r := (turn_spec.2.1 c).r
theorem turn_at {m : Nat} {c : Cur} (h : AtOk (m + 420) c) : AtOk m (turnS c) := (turn_spec.2.1 c).at_ h
theorem adv_turn {k : Nat} {c d : Cur} (h : Adv k c d) : Adv (k + 420) c (turnS d) := h.trans (turn_spec.2.1 d) (Nat.le_refl _)
noncomputable def s_cur_turning : Sig := ⟨41, [.cell 56 .cur], [.lift 76 .pt], fun ((c : Cur), _) => ⟨[AtOk 420 c], (turnV c, ()), (turnS c, ())⟩⟩
theorem ok_cur_turning : GSpec Tryz.prog s_cur_turning := turn_spec.2.2
set_option maxHeartbeats 4000000 in
theorem ex_spec_DrawFamilyLift : ∃ (V1 : Raw → List Pt) (V2 : Raw → Int) (V3 : Raw → Int), (∀ (r : Raw), ((V1 r).length ≤ 62)) ∧ GSpec Tryz.prog ⟨21, [.val .raw], [.lift 76 .pt, .val NI, .val NI], fun ((r : Raw), _) => ⟨[], (V1 r, V2 r, V3 r, ()), ()⟩⟩ := by
  obtain ⟨V, O, h1, h3⟩ := fn_some (P := Tryz.prog) tab_ok fol ((((Known.nil.cons ok_cur_familySize (by kernel_rfl)).cons ok_cur_turning (by kernel_rfl)).cons ok_cur_pick (by kernel_rfl)).cons ok_spec_l1Most (by kernel_rfl)) (f := 21) (ks := [.val .raw]) (rs := [.lift 76 .pt, .val NI, .val NI]) (by decide) Tryz.func21 (pre := fun y => match y with | ((r : Raw), _) => []) (Q := fun y R _ => match y, R with | ((r : Raw), _), ((v1 : List Pt), (v2 : Int), (v3 : Int), _) => v1.length ≤ 62) (by
    rintro ⟨(r : Raw), ⟨⟩⟩ hl hpre
    have hz := cz_at r
    have hf := famz_ok (hz.le (by decide))
    have ht := turn_ok (c := famzS ⟨r, 0, 0⟩) (by ((repeat (first | apply pick_at | apply any_at | apply uni_at | apply ord_at | apply rat_at | apply next_at | apply famz_at | apply stair_at | apply lgrid_at | apply lft_at | apply alft_at | apply turn_at)); exact AtOk.le (by assumption) (by first | decide | omega)))
    have d1 : ∀ c : Cur, 0 ≤ (pickV c 16).tdiv 15 ∧ (pickV c 16).tdiv 15 ≤ 1 := fun c => by
      have h := pickV_lt c (n := 16) (by omega)
      rw [Int.tdiv_eq_ediv_of_nonneg h.1]; omega
    have d2 : ∀ c : Cur, 0 ≤ (pickV c 24).tdiv 23 ∧ (pickV c 24).tdiv 23 ≤ 1 := fun c => by
      have h := pickV_lt c (n := 24) (by omega)
      rw [Int.tdiv_eq_ediv_of_nonneg h.1]; omega
    have a1 := d1 (turnS (famzS ⟨r, 0, 0⟩))
    have a2 := pickV_lt (pickS (turnS (famzS ⟨r, 0, 0⟩)) 16) (n := max 1 (famzV ⟨r, 0, 0⟩) + 1 + (pickV (turnS (famzS ⟨r, 0, 0⟩)) 16).tdiv 15) (by omega)
    have a3 := d2 (pickS (pickS (turnS (famzS ⟨r, 0, 0⟩)) 16) (max 1 (famzV ⟨r, 0, 0⟩) + 1 + (pickV (turnS (famzS ⟨r, 0, 0⟩)) 16).tdiv 15))
    repeat' (first | with_reducible apply andAll_cons | with_reducible apply andAll_nil | (with_reducible apply Cf.mk; kernel_rfl) | apply And.intro | intro _ | exact True.intro | apply Lf.mk)
    all_goals (try dsimp only at *)
    all_goals (try simp only [cur_eta, rt_eta_, List.length_cons, List.length_nil, Nat.zero_add, Nat.reduceAdd, Int.cast_ofNat_Int] at *)
    all_goals (try simp only [Bool.not_eq_true', Bool.not_eq_false', Bool.not_not, decide_eq_true_eq, decide_eq_false_iff_not, beq_iff_eq, bne_iff_ne, beq_eq_false_iff_ne, bne_eq_false_iff_eq, ne_eq, Bool.and_eq_true, Bool.and_eq_false_iff, Bool.or_eq_true, Bool.or_eq_false_iff, Int.toNat_natCast, Nat.zero_add, Int.ofNat_lt, Int.ofNat_le, List.length_cons, List.length_nil, List.drop_zero, List.take_length] at *)
    all_goals first | ((try simp only [anyS_r, ratS_r, uniS_r, ordS_r, pickS_r, nextS_r, famzS_r, stairS_r, lgridS_r, lftS_r, alftS_r, turnS_r]); (first | exact ⟨100000, rfl⟩ | exact rawIn_adv (by assumption) ⟨100000, rfl⟩)) | ((repeat (first | apply pick_at | apply any_at | apply uni_at | apply ord_at | apply rat_at | apply next_at | apply famz_at | apply stair_at | apply lgrid_at | apply lft_at | apply alft_at | apply turn_at)); exact AtOk.le (by assumption) (by first | decide | omega)) | omega | (show inI64 _; unfold inI64; omega) | (show 1 ≤ List.length _; simp; done) | (show _ * 32 ≤ 140737488355328; omega) | (show _ * 16 ≤ 140737488355328; omega) | with_reducible assumption | contradiction | exact unit_good_ (by assumption) | exact pk1 (by decide) (by decide) | exact pk2 (by decide) (by decide) | exact pk3 (by decide) (by decide) | exact pk4 (by decide) (by decide) | exact pk5 (by decide) (by decide) | skip
    all_goals (apply some_end (ks := [.val .raw]) (rs := [.lift 76 .pt, .val NI, .val NI]) (_, _, _, ()) (); (case h => ((repeat' (first | apply And.intro | exact True.intro | exact Lf.mk (by with_reducible rfl) | apply Lf.mk | with_reducible exact Eq.refl _)); all_goals (first | rfl | omega | skip))); (case q => ((try dsimp only); (first | exact trivial | omega | (rw [List.length_set]; omega) | (rw [List.length_take]; omega) | (simp only [List.length_cons, List.length_nil]; omega) | (simp; done) | skip)))))
  exact ⟨fun r => (V (r, ())).1, fun r => (V (r, ())).2.1, fun r => (V (r, ())).2.2.1, fun r => h1 (r, ()) trivial trivial, h3⟩
@[irreducible] noncomputable def dflV1 : Raw → List Pt := Classical.choose ex_spec_DrawFamilyLift
@[irreducible] noncomputable def dflV2 : Raw → Int := Classical.choose (Classical.choose_spec ex_spec_DrawFamilyLift)
@[irreducible] noncomputable def dflV3 : Raw → Int := Classical.choose (Classical.choose_spec (Classical.choose_spec ex_spec_DrawFamilyLift))
theorem dfl_spec : (∀ (r : Raw), ((dflV1 r).length ≤ 62)) ∧ GSpec Tryz.prog ⟨21, [.val .raw], [.lift 76 .pt, .val NI, .val NI], fun ((r : Raw), _) => ⟨[], (dflV1 r, dflV2 r, dflV3 r, ()), ()⟩⟩ := by
  unfold dflV1 dflV2 dflV3
  exact (Classical.choose_spec (Classical.choose_spec (Classical.choose_spec ex_spec_DrawFamilyLift)))
theorem dfl_ok {r : Raw} : (dflV1 r).length ≤ 62 := dfl_spec.1 r
noncomputable def s_spec_DrawFamilyLift : Sig := ⟨21, [.val .raw], [.lift 76 .pt, .val NI, .val NI], fun ((r : Raw), _) => ⟨[], (dflV1 r, dflV2 r, dflV3 r, ()), ()⟩⟩
theorem ok_spec_DrawFamilyLift : GSpec Tryz.prog s_spec_DrawFamilyLift := dfl_spec.2
end Go.Vx
