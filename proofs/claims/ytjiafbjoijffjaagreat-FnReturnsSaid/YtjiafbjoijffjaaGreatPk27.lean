/- The restrictive intervals between cuts: the reference's function. -/
import Derived.Test.YtjiafbjoijffjaaGreatPk26
import Derived.Test.YtjiafbjoijffjaaGreatPk24
namespace Go.Vx
open Go Go.Proofs
set_option maxRecDepth 100000
set_option linter.unusedSimpArgs false
set_option linter.unusedVariables false

set_option maxHeartbeats 16000000 in
theorem ex_cur_cuts : ∃ (V : Cur → List Rt) (S : Cur → Cur), (∀ (c : Cur), AtOk 300 c → ((V c).length ≤ 62)) ∧ (∀ (c : Cur), Adv 300 c (S c)) ∧ GSpec Tryz.prog ⟨157, [.cell 93 .cur], [.part .rat], fun ((c : Cur), _) => ⟨[AtOk 300 c], (V c, ()), (S c, ())⟩⟩ := by
  obtain ⟨V, S, h1, h2, h3⟩ := some_c (P := Tryz.prog) tab_ok fol (((((((Known.nil.cons ok_cur_pick (by kernel_rfl)).cons ok_cur_one (by kernel_rfl)).cons ok_cur_gridRat (by kernel_rfl)).cons ok_cur_among (by kernel_rfl)).cons ok_spec_raInt (by kernel_rfl)).cons ok_spec_imPut (by kernel_rfl)).cons ok_cur_anyRat (by kernel_rfl)) (f := 157) (t := 93) (ks := []) (rs := [.part .rat]) (by decide) Tryz.func157 300 (fun y => match y with | (_) => []) (fun y R => match y, R with | (_), ((v : List Rt), _) => v.length ≤ 62) (fun _ _ => rfl) (by
    rintro c ⟨⟩ hl hc hpre
    have hp0 := pickV_lt c (n := 5) (by decide)
    have hp1 := pickV_lt (pickS (pickS c 5) 12) (n := 2) (by decide)
    repeat' (first | with_reducible apply andAll_cons | with_reducible apply andAll_nil | (with_reducible apply Cf.mk; kernel_rfl) | apply And.intro | intro _ | exact True.intro | apply Lf.mk)
    all_goals (try dsimp only at *)
    all_goals (try simp only [cur_eta, rt_eta_, List.length_cons, List.length_nil, Nat.zero_add, Nat.reduceAdd, Int.cast_ofNat_Int] at *)
    all_goals (try simp only [Bool.not_eq_true', Bool.not_eq_false', Bool.not_not, decide_eq_true_eq, decide_eq_false_iff_not, beq_iff_eq, bne_iff_ne, beq_eq_false_iff_ne, bne_eq_false_iff_eq, ne_eq, Bool.and_eq_true, Bool.and_eq_false_iff, Bool.or_eq_true, Bool.or_eq_false_iff, Int.toNat_natCast, Nat.zero_add, Int.ofNat_lt, Int.ofNat_le, List.length_cons, List.length_nil, List.drop_zero, List.take_length] at *)
    all_goals first | ((try simp only [anyS_r, ratS_r, uniS_r, ordS_r, pickS_r, nextS_r, imGridS_r, imdS_r, anyImS_r, xofS_r, ivofS_r, rstS_r, strmS_r, homecS_r]); (first | exact ⟨100000, rfl⟩ | exact rawIn_adv (by assumption) ⟨100000, rfl⟩)) | ((repeat (first | apply pick_at | apply any_at | apply uni_at | apply ord_at | apply rat_at | apply next_at | apply imGrid_at | apply imd_at | apply anyIm_at | apply xof_at | apply ivof_at | apply rst_at | apply strm_at | apply homec_at)); exact AtOk.le (by assumption) (by first | decide | omega)) | omega | (show inI64 _; unfold inI64; omega) | (show 1 ≤ List.length _; simp; done) | (show _ * 32 ≤ 140737488355328; omega) | (show _ * 16 ≤ 140737488355328; omega) | with_reducible assumption | contradiction | exact unit_good_ (by assumption) | exact pk1 (by decide) (by decide) | exact pk2 (by decide) (by decide) | exact pk3 (by decide) (by decide) | exact pk4 (by decide) (by decide) | exact pk5 (by decide) (by decide) | skip
    all_goals (
      refine ⟨Cur × List Rt × Nat, fun x => ⟨[(5, .sc (.num .i64 x.2.2)), (3, .sc (.own 7777777))], [], [(7777777, .row 26 .rat x.2.1), (100000, cuB x.1)]⟩, fun x => Adv (20 + 4 * x.2.2) c x.1 ∧ Gd x.2.1 ∧ 2 ≤ x.2.1.length ∧ x.2.1.length ≤ 2 + x.2.2 ∧ x.2.2 ≤ 60, fun x => 60 - x.2.2, ?_, ?_⟩
      · apply start_go (_, _, 0)
        case hf =>
          repeat' (first | apply And.intro | exact True.intro | exact Lf.mk (by with_reducible rfl) | apply Lf.mk | with_reducible exact Eq.refl _)
          all_goals first | rfl | trace_state
        case h =>
          dsimp only
          refine ⟨?_, ?_, ?_, ?_, Nat.zero_le _⟩
          · ((repeat (first | apply adv_pick | apply adv_any | apply adv_uni | apply adv_ord | apply adv_rat | apply adv_next | apply adv_imGrid | apply adv_imd | apply adv_anyIm | apply adv_xof | apply adv_ivof | apply adv_rst | apply adv_strm | apply adv_homec)); (first | exact Adv.refl _ _ | exact Adv.le (by assumption) (by first | decide | omega)))
          · intro x hx
            simp only [List.mem_cons, List.not_mem_nil, or_false] at hx
            rcases hx with rfl | rfl
            · exact good_zero
            · exact good_one
          · exact Nat.le_refl _
          · exact Nat.le_refl _
      · rintro ⟨d, a, t⟩ ⟨k1, k2, k3, k4, k5⟩
        dsimp only at k1 k2 k3 k4 k5
        have hd : AtOk 30 d := Adv.at_ k1 (hc.le (by omega))
        have hmm := among_rng d (l := [2, 3, 4, 12]) 2 12 (by decide) (by decide)
        have hgg := fun n h1 h2 => griV_good (c := pickS d 4) (n := n) h1 h2
        have hpl := pickV_lt (pickS d 24) (n := (a.length : Int)) (by omega)
        have hl := fun x => putL_len x a
        have hl2 := fun x => putL_ge x a
        repeat' (first | with_reducible apply andAll_cons | with_reducible apply andAll_nil | (with_reducible apply Cf.mk; kernel_rfl) | apply And.intro | intro _ | exact True.intro | apply Lf.mk)
        all_goals (try dsimp only at *)
        all_goals (try simp only [cur_eta, rt_eta_, List.length_cons, List.length_nil, Nat.zero_add, Nat.reduceAdd, Int.cast_ofNat_Int] at *)
        all_goals (try simp only [Bool.not_eq_true', Bool.not_eq_false', Bool.not_not, decide_eq_true_eq, decide_eq_false_iff_not, beq_iff_eq, bne_iff_ne, beq_eq_false_iff_ne, bne_eq_false_iff_eq, ne_eq, Bool.and_eq_true, Bool.and_eq_false_iff, Bool.or_eq_true, Bool.or_eq_false_iff, Int.toNat_natCast, Nat.zero_add, Int.ofNat_lt, Int.ofNat_le, List.length_cons, List.length_nil, List.drop_zero, List.take_length] at *)
        all_goals first | ((try simp only [anyS_r, ratS_r, uniS_r, ordS_r, pickS_r, nextS_r, imGridS_r, imdS_r, anyImS_r, xofS_r, ivofS_r, rstS_r, strmS_r, homecS_r]); (first | exact ⟨100000, rfl⟩ | exact rawIn_adv (by assumption) ⟨100000, rfl⟩)) | ((repeat (first | apply pick_at | apply any_at | apply uni_at | apply ord_at | apply rat_at | apply next_at | apply imGrid_at | apply imd_at | apply anyIm_at | apply xof_at | apply ivof_at | apply rst_at | apply strm_at | apply homec_at)); exact AtOk.le (by assumption) (by first | decide | omega)) | omega | (show inI64 _; unfold inI64; omega) | (show 1 ≤ List.length _; simp; done) | (show _ * 32 ≤ 140737488355328; omega) | (show _ * 16 ≤ 140737488355328; omega) | with_reducible assumption | contradiction | exact unit_good_ (by assumption) | exact pk1 (by decide) (by decide) | exact pk2 (by decide) (by decide) | exact pk3 (by decide) (by decide) | exact pk4 (by decide) (by decide) | exact pk5 (by decide) (by decide) | skip
        all_goals first
          | ((with_reducible show goodRt _ = true); first | exact k2 _ (by assumption) | exact hgg _ (by omega) (by omega))
          | omega
          | (apply round_go (_, _, t + 1)
             · repeat' (first | apply And.intro | exact True.intro | exact Lf.mk (by with_reducible rfl) | apply Lf.mk | with_reducible exact Eq.refl _)
               all_goals first | rfl | (rw [Int.natCast_add]; rfl) | omega | skip
             · dsimp only; omega
             · dsimp only
               exact ⟨(k1.trans (pick_adv _ _) (k := 22 + 4 * t) (by omega)).trans (pick_adv _ _) (by omega), putL_good k2 (hgg _ (by omega) (by omega)), Nat.le_trans k3 (hl2 _), Nat.le_trans (hl _) (by omega), by omega⟩)
          | (apply some_end (ks := [.cell 93 .cur]) (rs := [.part .rat]) (_, ()) (_, ())
             · repeat' (first | apply And.intro | exact True.intro | exact Lf.mk (by with_reducible rfl) | apply Lf.mk | with_reducible exact Eq.refl _)
             · dsimp only
               refine ⟨?_, by ((repeat (first | apply adv_pick | apply adv_any | apply adv_uni | apply adv_ord | apply adv_rat | apply adv_next | apply adv_imGrid | apply adv_imd | apply adv_anyIm | apply adv_xof | apply adv_ivof | apply adv_rst | apply adv_strm | apply adv_homec)); (first | exact Adv.refl _ _ | exact Adv.le (by assumption) (by first | decide | omega)))⟩
               first | omega | (simp only [List.length_take, List.length_drop, List.length_set]; omega))
          | trace_state))
  exact ⟨fun c => (V c ()).1, fun c => S c (), fun c hA => h1 c () trivial hA trivial, fun c => h2 c (), h3⟩
@[irreducible] noncomputable def cutdV : Cur → List Rt := Classical.choose ex_cur_cuts
@[irreducible] noncomputable def cutdS : Cur → Cur := Classical.choose (Classical.choose_spec ex_cur_cuts)
theorem cutd_spec : (∀ (c : Cur), AtOk 300 c → ((cutdV c).length ≤ 62)) ∧ (∀ (c : Cur), Adv 300 c (cutdS c)) ∧ GSpec Tryz.prog ⟨157, [.cell 93 .cur], [.part .rat], fun ((c : Cur), _) => ⟨[AtOk 300 c], (cutdV c, ()), (cutdS c, ())⟩⟩ := by
  unfold cutdV cutdS
  exact (Classical.choose_spec (Classical.choose_spec ex_cur_cuts))
theorem cutd_ok {c : Cur} (hA : AtOk 300 c) : (cutdV c).length ≤ 62 := cutd_spec.1 c hA
theorem cutdS_r (c : Cur) : (cutdS c).r = c.r := (cutd_spec.2.1 c).r
theorem cutd_at {m : Nat} {c : Cur} (h : AtOk (m + 300) c) : AtOk m (cutdS c) := (cutd_spec.2.1 c).at_ h
theorem adv_cutd {k : Nat} {c d : Cur} (h : Adv k c d) : Adv (k + 300) c (cutdS d) := h.trans (cutd_spec.2.1 d) (Nat.le_refl _)
noncomputable def s_cur_cuts : Sig := ⟨157, [.cell 93 .cur], [.part .rat], fun ((c : Cur), _) => ⟨[AtOk 300 c], (cutdV c, ()), (cutdS c, ())⟩⟩
theorem ok_cur_cuts : GSpec Tryz.prog s_cur_cuts := cutd_spec.2.2

set_option maxHeartbeats 16000000 in
theorem ex_cur_markov : ∃ (V1 : Cur → List Pt) (V2 : Cur → List Rt) (S : Cur → Cur), (∀ (c : Cur), AtOk 1200 c → ((V1 c).length ≤ 62 ∧ (V2 c).length ≤ 100)) ∧ (∀ (c : Cur), Adv 1200 c (S c)) ∧ GSpec Tryz.prog ⟨84, [.cell 93 .cur], [.list 107 .pt, .part .rat], fun ((c : Cur), _) => ⟨[AtOk 1200 c], (V1 c, V2 c, ()), (S c, ())⟩⟩ := by
  obtain ⟨V, S, h1, h2, h3⟩ := some_c (P := Tryz.prog) tab_ok fol (((((Known.nil.cons ok_cur_strictMap (by kernel_rfl)).cons ok_spec_imGood (by kernel_rfl)).cons ok_cur_one (by kernel_rfl)).cons ok_spec_mkPartition (by kernel_rfl)).cons ok_cur_cuts (by kernel_rfl)) (f := 84) (t := 93) (ks := []) (rs := [.list 107 .pt, .part .rat]) (by decide) Tryz.func84 1200 (fun y => match y with | (_) => []) (fun y R => match y, R with | (_), ((v1 : List Pt), (v2 : List Rt), _) => v1.length ≤ 62 ∧ v2.length ≤ 100) (fun _ _ => rfl) (by
    rintro c ⟨⟩ hl hc hpre
    have h2 := strm_ok (c := c) (hc.le (by decide))
    have hb : (strmV c).length ≤ 9223372036854775807 := by omega
    have h3 := fun b h => mkp_ok (f := strmV c) (b := b) hb h h2
    repeat' (first | with_reducible apply andAll_cons | with_reducible apply andAll_nil | (with_reducible apply Cf.mk; kernel_rfl) | apply And.intro | intro _ | exact True.intro | apply Lf.mk)
    all_goals (try dsimp only at *)
    all_goals (try simp only [cur_eta, rt_eta_, List.length_cons, List.length_nil, Nat.zero_add, Nat.reduceAdd, Int.cast_ofNat_Int] at *)
    all_goals (try simp only [Bool.not_eq_true', Bool.not_eq_false', Bool.not_not, decide_eq_true_eq, decide_eq_false_iff_not, beq_iff_eq, bne_iff_ne, beq_eq_false_iff_ne, bne_eq_false_iff_eq, ne_eq, Bool.and_eq_true, Bool.and_eq_false_iff, Bool.or_eq_true, Bool.or_eq_false_iff, Int.toNat_natCast, Nat.zero_add, Int.ofNat_lt, Int.ofNat_le, List.length_cons, List.length_nil, List.drop_zero, List.take_length] at *)
    all_goals first | ((try simp only [anyS_r, ratS_r, uniS_r, ordS_r, pickS_r, nextS_r, imGridS_r, imdS_r, anyImS_r, xofS_r, ivofS_r, rstS_r, strmS_r, homecS_r, cutdS_r]); (first | exact ⟨100000, rfl⟩ | exact rawIn_adv (by assumption) ⟨100000, rfl⟩)) | ((repeat (first | apply pick_at | apply any_at | apply uni_at | apply ord_at | apply rat_at | apply next_at | apply imGrid_at | apply imd_at | apply anyIm_at | apply xof_at | apply ivof_at | apply rst_at | apply strm_at | apply homec_at | apply cutd_at)); exact AtOk.le (by assumption) (by first | decide | omega)) | omega | (show inI64 _; unfold inI64; omega) | (show 1 ≤ List.length _; simp; done) | (show _ * 32 ≤ 140737488355328; omega) | (show _ * 16 ≤ 140737488355328; omega) | with_reducible assumption | contradiction | exact unit_good_ (by assumption) | exact pk1 (by decide) (by decide) | exact pk2 (by decide) (by decide) | exact pk3 (by decide) (by decide) | exact pk4 (by decide) (by decide) | exact pk5 (by decide) (by decide) | skip
    all_goals (
      apply some_end (ks := [.cell 93 .cur]) (rs := [.list 107 .pt, .part .rat]) (_, _, ()) (_, ())
      · repeat' (first | apply And.intro | exact True.intro | exact Lf.mk (by with_reducible rfl) | apply Lf.mk | with_reducible exact Eq.refl _)
      · dsimp only
        refine ⟨⟨h2, ?_⟩, by ((repeat (first | apply adv_pick | apply adv_any | apply adv_uni | apply adv_ord | apply adv_rat | apply adv_next | apply adv_imGrid | apply adv_imd | apply adv_anyIm | apply adv_xof | apply adv_ivof | apply adv_rst | apply adv_strm | apply adv_homec | apply adv_cutd)); (first | exact Adv.refl _ _ | exact Adv.le (by assumption) (by first | decide | omega)))⟩
        try simp only [List.drop_zero, List.take_length]
        first | exact h3 _ (by assumption) | (refine Nat.le_trans (m := 62) (cutd_ok ?_) (by decide); ((repeat (first | apply pick_at | apply any_at | apply uni_at | apply ord_at | apply rat_at | apply next_at | apply imGrid_at | apply imd_at | apply anyIm_at | apply xof_at | apply ivof_at | apply rst_at | apply strm_at | apply homec_at | apply cutd_at)); exact AtOk.le (by assumption) (by first | decide | omega)))))
  exact ⟨fun c => (V c ()).1, fun c => (V c ()).2.1, fun c => S c (), fun c hA => h1 c () trivial hA trivial, fun c => h2 c (), h3⟩
@[irreducible] noncomputable def markV1 : Cur → List Pt := Classical.choose ex_cur_markov
@[irreducible] noncomputable def markV2 : Cur → List Rt := Classical.choose (Classical.choose_spec ex_cur_markov)
@[irreducible] noncomputable def markS : Cur → Cur := Classical.choose (Classical.choose_spec (Classical.choose_spec ex_cur_markov))
theorem mark_spec : (∀ (c : Cur), AtOk 1200 c → ((markV1 c).length ≤ 62 ∧ (markV2 c).length ≤ 100)) ∧ (∀ (c : Cur), Adv 1200 c (markS c)) ∧ GSpec Tryz.prog ⟨84, [.cell 93 .cur], [.list 107 .pt, .part .rat], fun ((c : Cur), _) => ⟨[AtOk 1200 c], (markV1 c, markV2 c, ()), (markS c, ())⟩⟩ := by
  unfold markV1 markV2 markS
  exact (Classical.choose_spec (Classical.choose_spec (Classical.choose_spec ex_cur_markov)))
theorem mark_ok {c : Cur} (hA : AtOk 1200 c) : (markV1 c).length ≤ 62 ∧ (markV2 c).length ≤ 100 := mark_spec.1 c hA
theorem markS_r (c : Cur) : (markS c).r = c.r := (mark_spec.2.1 c).r
theorem mark_at {m : Nat} {c : Cur} (h : AtOk (m + 1200) c) : AtOk m (markS c) := (mark_spec.2.1 c).at_ h
theorem adv_mark {k : Nat} {c d : Cur} (h : Adv k c d) : Adv (k + 1200) c (markS d) := h.trans (mark_spec.2.1 d) (Nat.le_refl _)
noncomputable def s_cur_markov : Sig := ⟨84, [.cell 93 .cur], [.list 107 .pt, .part .rat], fun ((c : Cur), _) => ⟨[AtOk 1200 c], (markV1 c, markV2 c, ()), (markS c, ())⟩⟩
theorem ok_cur_markov : GSpec Tryz.prog s_cur_markov := mark_spec.2.2

set_option maxHeartbeats 16000000 in
theorem ex_spec_DrawRestrictiveAmong : ∃ (V1 : Raw → List Pt) (V2 : Raw → List Rt) (V3 : Raw → Int), (∀ (r : Raw), ((V1 r).length ≤ 62 ∧ (V2 r).length ≤ 100)) ∧ GSpec Tryz.prog ⟨20, [.val .raw], [.list 107 .pt, .part .rat, .val NI], fun ((r : Raw), _) => ⟨[], (V1 r, V2 r, V3 r, ()), ()⟩⟩ := by
  obtain ⟨V, O, h1, h3⟩ := fn_some (P := Tryz.prog) tab_ok fol (((((((Known.nil.cons ok_cur_one (by kernel_rfl)).cons ok_cur_homecoming (by kernel_rfl)).cons ok_spec_ivGood (by kernel_rfl)).cons ok_spec_raInt (by kernel_rfl)).cons ok_spec_imPut (by kernel_rfl)).cons ok_cur_returnSteps (by kernel_rfl)).cons ok_cur_markov (by kernel_rfl)) (f := 20) (ks := [.val .raw]) (rs := [.list 107 .pt, .part .rat, .val NI]) (by decide) Tryz.func20 (pre := fun y => match y with | ((r : Raw), _) => []) (Q := fun y R _ => match y, R with | ((r : Raw), _), ((v1 : List Pt), (v2 : List Rt), (v3 : Int), _) => v1.length ≤ 62 ∧ v2.length ≤ 100) (by
    rintro ⟨(r : Raw), ⟨⟩⟩ hl hpre
    have hz := cz_at r
    have h1 := homec_ok (c := pickS ⟨r, 0, 0⟩ 3) (by ((repeat (first | apply pick_at | apply any_at | apply uni_at | apply ord_at | apply rat_at | apply next_at | apply imGrid_at | apply imd_at | apply anyIm_at | apply xof_at | apply ivof_at | apply rst_at | apply strm_at | apply homec_at | apply cutd_at | apply mark_at)); exact AtOk.le (by assumption) (by first | decide | omega)))
    have g0 : ∀ y ∈ [(⟨0, 1⟩ : Rt)], goodRt y = true := fun y hy => by rw [List.mem_singleton.1 hy]; exact good_zero
    have p1 := putL_good (x := ⟨1, 1⟩) g0 good_one
    have n1 := putL_len ⟨1, 1⟩ [(⟨0, 1⟩ : Rt)]
    repeat' (first | with_reducible apply andAll_cons | with_reducible apply andAll_nil | (with_reducible apply Cf.mk; kernel_rfl) | apply And.intro | intro _ | exact True.intro | apply Lf.mk)
    all_goals (try dsimp only at *)
    all_goals (try simp only [cur_eta, rt_eta_, List.length_cons, List.length_nil, Nat.zero_add, Nat.reduceAdd, Int.cast_ofNat_Int] at *)
    all_goals (try simp only [Bool.not_eq_true', Bool.not_eq_false', Bool.not_not, decide_eq_true_eq, decide_eq_false_iff_not, beq_iff_eq, bne_iff_ne, beq_eq_false_iff_ne, bne_eq_false_iff_eq, ne_eq, Bool.and_eq_true, Bool.and_eq_false_iff, Bool.or_eq_true, Bool.or_eq_false_iff, Int.toNat_natCast, Nat.zero_add, Int.ofNat_lt, Int.ofNat_le, List.length_cons, List.length_nil, List.drop_zero, List.take_length] at *)
    all_goals first | ((try simp only [anyS_r, ratS_r, uniS_r, ordS_r, pickS_r, nextS_r, imGridS_r, imdS_r, anyImS_r, xofS_r, ivofS_r, rstS_r, strmS_r, homecS_r, cutdS_r, markS_r]); (first | exact ⟨100000, rfl⟩ | exact rawIn_adv (by assumption) ⟨100000, rfl⟩)) | ((repeat (first | apply pick_at | apply any_at | apply uni_at | apply ord_at | apply rat_at | apply next_at | apply imGrid_at | apply imd_at | apply anyIm_at | apply xof_at | apply ivof_at | apply rst_at | apply strm_at | apply homec_at | apply cutd_at | apply mark_at)); exact AtOk.le (by assumption) (by first | decide | omega)) | omega | (show inI64 _; unfold inI64; omega) | (show 1 ≤ List.length _; simp; done) | (show _ * 32 ≤ 140737488355328; omega) | (show _ * 16 ≤ 140737488355328; omega) | with_reducible assumption | contradiction | exact unit_good_ (by assumption) | exact pk1 (by decide) (by decide) | exact pk2 (by decide) (by decide) | exact pk3 (by decide) (by decide) | exact pk4 (by decide) (by decide) | exact pk5 (by decide) (by decide) | skip
    all_goals first
      | exact g0 _ (by assumption)
      | exact good_one
      | exact p1 _ (by assumption)
      | (have hv : ivOk (homecV2 (pickS ⟨r, 0, 0⟩ 3)) = true := (by assumption)
         have a1 := unit_good (ivOk_iff.1 hv).1
         have a2 := unit_good (ivOk_iff.1 hv).2.1
         have n2 := putL_len (homecV2 (pickS ⟨r, 0, 0⟩ 3)).1 (putL [(⟨0, 1⟩ : Rt)] ⟨1, 1⟩)
         have n3 := putL_len (homecV2 (pickS ⟨r, 0, 0⟩ 3)).2 (putL (putL [(⟨0, 1⟩ : Rt)] ⟨1, 1⟩) (homecV2 (pickS ⟨r, 0, 0⟩ 3)).1)
         have n5 : (putL (putL [(⟨0, 1⟩ : Rt)] ⟨1, 1⟩) (homecV2 (pickS ⟨r, 0, 0⟩ 3)).1).length ≤ 100000 := by omega
         have n4 : (putL (putL (putL [(⟨0, 1⟩ : Rt)] ⟨1, 1⟩) (homecV2 (pickS ⟨r, 0, 0⟩ 3)).1) (homecV2 (pickS ⟨r, 0, 0⟩ 3)).2).length ≤ 100 := by omega
         first
           | exact a1
           | exact a2
           | exact putL_good p1 a1 _ (by assumption)
           | exact n5
           | (apply some_end (ks := [.val .raw]) (rs := [.list 107 .pt, .part .rat, .val NI]) (_, _, _, ()) ()
              · repeat' (first | apply And.intro | exact True.intro | exact Lf.mk (by with_reducible rfl) | apply Lf.mk | with_reducible exact Eq.refl _)
              · exact ⟨h1, n4⟩))
      | (apply some_end (ks := [.val .raw]) (rs := [.list 107 .pt, .part .rat, .val NI]) (_, _, _, ()) ()
         · repeat' (first | apply And.intro | exact True.intro | exact Lf.mk (by with_reducible rfl) | apply Lf.mk | with_reducible exact Eq.refl _)
         · dsimp only
           try simp only [List.drop_zero, List.take_length]
           refine mark_ok ?_
           ((repeat (first | apply pick_at | apply any_at | apply uni_at | apply ord_at | apply rat_at | apply next_at | apply imGrid_at | apply imd_at | apply anyIm_at | apply xof_at | apply ivof_at | apply rst_at | apply strm_at | apply homec_at | apply cutd_at | apply mark_at)); exact AtOk.le (by assumption) (by first | decide | omega)))
      | trace_state)
  exact ⟨fun r => (V (r, ())).1, fun r => (V (r, ())).2.1, fun r => (V (r, ())).2.2.1, fun r => h1 (r, ()) trivial trivial, h3⟩
@[irreducible] noncomputable def dRamV1 : Raw → List Pt := Classical.choose ex_spec_DrawRestrictiveAmong
@[irreducible] noncomputable def dRamV2 : Raw → List Rt := Classical.choose (Classical.choose_spec ex_spec_DrawRestrictiveAmong)
@[irreducible] noncomputable def dRamV3 : Raw → Int := Classical.choose (Classical.choose_spec (Classical.choose_spec ex_spec_DrawRestrictiveAmong))
theorem dRam_spec : (∀ (r : Raw), ((dRamV1 r).length ≤ 62 ∧ (dRamV2 r).length ≤ 100)) ∧ GSpec Tryz.prog ⟨20, [.val .raw], [.list 107 .pt, .part .rat, .val NI], fun ((r : Raw), _) => ⟨[], (dRamV1 r, dRamV2 r, dRamV3 r, ()), ()⟩⟩ := by
  unfold dRamV1 dRamV2 dRamV3
  exact (Classical.choose_spec (Classical.choose_spec (Classical.choose_spec ex_spec_DrawRestrictiveAmong)))
theorem dRam_ok {r : Raw} : (dRamV1 r).length ≤ 62 ∧ (dRamV2 r).length ≤ 100 := dRam_spec.1 r
noncomputable def s_spec_DrawRestrictiveAmong : Sig := ⟨20, [.val .raw], [.list 107 .pt, .part .rat, .val NI], fun ((r : Raw), _) => ⟨[], (dRamV1 r, dRamV2 r, dRamV3 r, ()), ()⟩⟩
theorem ok_spec_DrawRestrictiveAmong : GSpec Tryz.prog s_spec_DrawRestrictiveAmong := dRam_spec.2
end Go.Vx
namespace Go.Vx
open Go Go.Proofs
set_option maxRecDepth 100000
set_option linter.unusedSimpArgs false
set_option linter.unusedVariables false

noncomputable def partOk (xs : List Rt) : Bool := inB xs.length 2 9 && (xs.all unitRt && (risR xs && (eqRt (getA zR xs 0) ⟨0, 1⟩ && eqRt (getA zR xs (xs.length - 1)) ⟨1, 1⟩)))
theorem part_iff {xs : List Rt} : partOk xs = true ↔ ((2 ≤ xs.length ∧ xs.length ≤ 9) ∧ (∀ x ∈ xs, unitRt x = true) ∧ (∀ i, i + 1 < xs.length → ltR (getA zR xs i) (getA zR xs (i + 1))) ∧ getA zR xs 0 = ⟨0, 1⟩ ∧ getA zR xs (xs.length - 1) = ⟨1, 1⟩) := by
  unfold partOk inB
  simp only [Bool.and_eq_true, decide_eq_true_eq, List.all_eq_true, risR_iff, eqRt_dec]
  constructor
  · intro ⟨h1, h2, h3, h4, h5⟩; exact ⟨by omega, h2, h3, h4, h5⟩
  · intro ⟨h1, h2, h3, h4, h5⟩; exact ⟨by omega, h2, h3, h4, h5⟩
theorem part_get {xs : List Rt} (h : partOk xs = true) {i : Nat} (hi : i < xs.length) : unitRt (getA zR xs i) = true := (part_iff.1 h).2.1 _ (getA_mem _ hi)
theorem part_lt {xs : List Rt} (h : partOk xs = true) : ∀ {j i : Nat}, i < j → j < xs.length → ltR (getA zR xs i) (getA zR xs j)
  | 0, i, h1, _ => by omega
  | j + 1, i, h1, h2 => by
    have h3 := (part_iff.1 h).2.2.1 j h2
    rcases Nat.lt_or_eq_of_le (Nat.le_of_lt_succ h1) with h4 | h4
    · have h5 := part_lt h h4 (by omega)
      have g1 := unit_good (part_get h (i := i) (by omega))
      have g2 := unit_good (part_get h (i := j) (by omega))
      have g3 := unit_good (part_get h (i := j + 1) h2)
      have q1 := (q_lt g1 g2).1 h5
      have q2 := (q_lt g2 g3).1 h3
      exact (q_lt g1 g3).2 (by grind)
    · rw [h4]; exact h3
theorem part_iv {xs : List Rt} (h : partOk xs = true) {i j : Nat} (h1 : i < j) (h2 : j < xs.length) : ivOk ⟨getA zR xs i, getA zR xs j⟩ = true :=
  ivOk_iff.2 ⟨part_get h (by omega), part_get h h2, part_lt h h1 h2⟩
noncomputable def s_impl_isPartition : Sig := ⟨86, [.list .rat], [.val .bool], fun ((xs : List Rt), _) => ⟨[], (partOk xs, ()), ()⟩⟩
noncomputable def s_spec_mkGood : Sig := ⟨89, [.list .rat], [.val .bool], fun ((xs : List Rt), _) => ⟨[], (partOk xs, ()), ()⟩⟩
theorem cond_andA (P Q : Bool) : (bif P then Q else false) = (P && Q) := by cases P <;> rfl
theorem part_eq {xs : List Rt} (h : 2 ≤ (xs.length : Int)) : (((((inB xs.length 2 9 && xs.all unitRt) && risR xs) && eqRt ⟨(getA VK.rat.dflt xs (Int.toNat 0)).num, (getA VK.rat.dflt xs (Int.toNat 0)).den⟩ ⟨0, 1⟩) && eqRt ⟨(getA VK.rat.dflt xs ((xs.length : Int) - 1).toNat).num, (getA VK.rat.dflt xs ((xs.length : Int) - 1).toNat).den⟩ ⟨1, 1⟩)) = partOk xs := by
  unfold partOk
  rw [show ((xs.length : Int) - 1).toNat = xs.length - 1 by omega, Bool.and_assoc, Bool.and_assoc, Bool.and_assoc]
  rfl
theorem part_no {xs : List Rt} (h : inB xs.length 2 9 = false) : false = partOk xs := by unfold partOk; rw [h]; rfl
theorem part_no2 {xs : List Rt} (h : (inB xs.length 2 9 && xs.all unitRt) = false) : false = partOk xs := by
  unfold partOk; rw [← Bool.and_assoc, h]; rfl
theorem part_no3 {xs : List Rt} (h : ((inB xs.length 2 9 && xs.all unitRt) && risR xs) = false) : false = partOk xs := by
  unfold partOk; rw [← Bool.and_assoc, ← Bool.and_assoc, h]; rfl
theorem part_no4 {xs : List Rt} (h : (((inB xs.length 2 9 && xs.all unitRt) && risR xs) && eqRt (getA VK.rat.dflt xs (Int.toNat 0)) ⟨0, 1⟩) = false) : false = partOk xs := by
  unfold partOk; rw [← Bool.and_assoc, ← Bool.and_assoc, ← Bool.and_assoc]
  have : (((inB xs.length 2 9 && xs.all unitRt) && risR xs) && eqRt (getA zR xs 0) ⟨0, 1⟩) = false := h
  rw [this]; rfl
theorem ok_impl_isPartition : GSpec Tryz.prog s_impl_isPartition := by
  refine fn_known tab_ok fol (((((Known.nil.cons ok_impl_within (by kernel_rfl)).cons ok_impl_areUnits (by kernel_rfl)).cons ok_impl_isRising (by kernel_rfl)).cons ok_impl_zero (by kernel_rfl)).cons ok_impl_oneRat (by kernel_rfl)) (by decide) Tryz.func86 ?_
  rintro ⟨(xs : List Rt), ⟨⟩⟩ ⟨hl, _⟩ -
  have hl : xs.length ≤ 9223372036854775807 := hl
  repeat' (first | with_reducible apply andAll_cons | with_reducible apply andAll_nil | (with_reducible apply Cf.mk; kernel_rfl) | apply And.intro | intro _ | exact True.intro | apply Lf.mk)
  all_goals (try simp only [cond_andA, List.drop_zero, List.take_length, Nat.zero_add] at *)
  all_goals first
    | omega
    | contradiction
    | exact part_no (by assumption)
    | exact part_no4 (by assumption)
    | exact part_no3 (by assumption)
    | exact part_no2 (by assumption)
    | (have hb := of_decide_eq_true (by assumption : inB (xs.length : Int) 2 9 = true)
       first
         | omega
         | exact part_eq hb.1
         | (show Int.toNat 0 < _; simp; omega)
         | exact unit_good (List.all_eq_true.1 ((Bool.and_eq_true _ _).mp (by assumption : (inB (xs.length : Int) 2 9 && xs.all unitRt) = true)).2 _ (by assumption)))
    | skip
theorem bI {C P Q : Bool} (h : (bif !C then true else bif P then Q else false) = true) (h2 : C = true) : Q = true := by revert h h2; cases C <;> cases P <;> cases Q <;> decide
theorem bJ {C P Q : Bool} (h : (bif !C then true else bif P then Q else false) = false) (h2 : P = true) : Q = false := by revert h h2; cases C <;> cases P <;> cases Q <;> decide
theorem bK {C : Bool} (h : (bif !C then true else false) = true) (h2 : C = true) : False := by revert h h2; cases C <;> decide
theorem part_nolt {xs : List Rt} {i : Nat} (hi : i < xs.length) (h0 : (0 : Int) < i) (h : ¬ ltR (getA zR xs ((i : Int) - 1).toNat) (getA zR xs i)) : false = partOk xs := by
  symm; rw [Bool.eq_false_iff]; intro h3
  have := (part_iff.1 h3).2.2.1 (i - 1) (by omega)
  rw [pred_nat h0] at h
  rw [show i - 1 + 1 = i by omega] at this
  exact h this
theorem part_nou {xs : List Rt} {i : Nat} (hi : i < xs.length) (h : unitRt (getA zR xs i) = false) : false = partOk xs := by
  symm; rw [Bool.eq_false_iff]; intro h3
  rw [part_get h3 hi] at h; cases h
theorem part_fin {xs : List Rt} {i : Nat} (hb : 2 ≤ (xs.length : Int) ∧ (xs.length : Int) ≤ 9) (hi : ¬ i < xs.length) (g1 : i ≤ xs.length) (g2 : ∀ j, j < i → unitRt (getA zR xs j) = true) (g3 : ∀ j, j + 1 < i → ltR (getA zR xs j) (getA zR xs (j + 1))) :
    (bif eqRt (getA zR xs (Int.toNat 0)) ⟨0, 1⟩ then eqRt (getA zR xs ((xs.length : Int) - 1).toNat) ⟨1, 1⟩ else false) = partOk xs := by
  have e : i = xs.length := by omega
  subst e
  have h1 : inB xs.length 2 9 = true := decide_eq_true hb
  have h2 : xs.all unitRt = true := List.all_eq_true.2 fun x hx => by
    obtain ⟨j, hj, rfl⟩ := List.mem_iff_getElem.1 hx
    rw [← getA_lt zR xs j hj]; exact g2 j hj
  have h3 : risR xs = true := risR_iff.2 fun j hj => g3 j hj
  unfold partOk
  rw [h1, h2, h3, show Int.toNat 0 = 0 from rfl, show ((xs.length : Int) - 1).toNat = xs.length - 1 by omega]
  cases eqRt (getA zR xs 0) ⟨0, 1⟩ <;> rfl
theorem ok_spec_mkGood : GSpec Tryz.prog s_spec_mkGood := by
  refine fn_known tab_ok fol ((((Known.nil.cons ok_spec_l1In (by kernel_rfl)).cons ok_spec_raUnit (by kernel_rfl)).cons ok_spec_raCmp (by kernel_rfl)).cons ok_spec_raInt (by kernel_rfl)) (by decide) Tryz.func89 ?_
  rintro ⟨(xs : List Rt), ⟨⟩⟩ ⟨hl, _⟩ -
  have hl : xs.length ≤ 9223372036854775807 := hl
  repeat' (first | with_reducible apply andAll_cons | with_reducible apply andAll_nil | (with_reducible apply Cf.mk; kernel_rfl) | apply And.intro | intro _ | exact True.intro | apply Lf.mk)
  all_goals (try simp only [Bool.not_eq_true', Bool.not_eq_false', Bool.not_not, decide_eq_true_eq, decide_eq_false_iff_not, beq_iff_eq, bne_iff_ne, beq_eq_false_iff_ne, bne_eq_false_iff_eq, ne_eq, Bool.and_eq_true, Bool.and_eq_false_iff, Bool.or_eq_true, Bool.or_eq_false_iff, Int.toNat_natCast, Nat.zero_add, Int.ofNat_lt, Int.ofNat_le, List.length_cons, List.length_nil, List.drop_zero, List.take_length] at *)
  all_goals first | omega | exact part_no (by assumption) | skip
  rename_i h1
  have hb := of_decide_eq_true h1
  refine ⟨Nat, fun i => ⟨[(11, .sc (.num .i64 i))], [100000], []⟩, fun i => i ≤ xs.length ∧ (∀ j, j < i → unitRt (getA zR xs j) = true) ∧ ∀ j, j + 1 < i → ltR (getA zR xs j) (getA zR xs (j + 1)), fun i => xs.length - i, ⟨0, ⟨Nat.zero_le _, fun j hj => by omega, fun j hj => by omega⟩, ?_⟩, ?_⟩
  · repeat' (first | apply And.intro | exact True.intro | exact Lf.mk (by with_reducible rfl) | apply Lf.mk)
    all_goals rfl
  · rintro i ⟨g1, g2, g3⟩
    repeat' (first | with_reducible apply andAll_cons | with_reducible apply andAll_nil | (with_reducible apply Cf.mk; kernel_rfl) | apply And.intro | intro _ | exact True.intro | apply Lf.mk)
    all_goals (try simp only [Bool.not_eq_true', Bool.not_eq_false', Bool.not_not, decide_eq_true_eq, decide_eq_false_iff_not, beq_iff_eq, bne_iff_ne, beq_eq_false_iff_ne, bne_eq_false_iff_eq, ne_eq, Bool.and_eq_true, Bool.and_eq_false_iff, Bool.or_eq_true, Bool.or_eq_false_iff, Int.toNat_natCast, Nat.zero_add, Int.ofNat_lt, Int.ofNat_le, List.length_cons, List.length_nil, List.drop_zero, List.take_length] at *)
    all_goals first
      | omega
      | contradiction
      | assumption
      | exact unit_good (by assumption)
      | exact unit_good (g2 _ (by omega))
      | exact part_nou (by assumption) (by assumption)
      | exact part_nolt (by assumption) (by assumption) (cmp_ge (bI (by assumption) (by assumption)))
      | exact (bK (by assumption) (by assumption)).elim
      | skip
    · rename_i q1 q2 q3 q4
      have h8 := cmp_lt (bJ q4 (decide_eq_true q3))
      rw [pred_nat q3] at h8
      refine ⟨i + 1, ⟨by omega, fun j hj => ?_, fun j hj => ?_⟩, by omega, ?_⟩
      · rcases Nat.lt_or_eq_of_le (Nat.le_of_lt_succ hj) with h7 | h7
        · exact g2 j h7
        · rw [h7]; exact q2
      · rcases Nat.lt_or_eq_of_le (Nat.le_of_lt_succ hj) with h7 | h7
        · exact g3 j h7
        · rw [show j = i - 1 by omega, show i - 1 + 1 = i by omega]; exact h8
      · repeat' (first | apply And.intro | exact True.intro | exact Lf.mk (by with_reducible rfl) | apply Lf.mk)
        all_goals (rw [Int.natCast_add]; rfl)
    · rename_i q1 q2 q3 q4
      refine ⟨i + 1, ⟨by omega, fun j hj => ?_, fun j hj => by omega⟩, by omega, ?_⟩
      · rw [show j = i by omega]; exact q2
      · repeat' (first | apply And.intro | exact True.intro | exact Lf.mk (by with_reducible rfl) | apply Lf.mk)
        all_goals (rw [Int.natCast_add]; rfl)
    · exact part_fin hb (by assumption) g1 g2 g3
    · rename_i q1 q2
      have := part_fin hb q1 g1 g2 g3
      rw [← this]
      have q2 : eqRt (getA zR xs (Int.toNat 0)) ⟨0, 1⟩ = false := q2
      rw [q2]; rfl
noncomputable def amI (f : List Pt) (n : Nat) (a : Rt) : List Rt → List Iv → Option (List Iv)
  | [], acc => some acc
  | b :: r, acc => match (imgs f ⟨a, b⟩ n).2.2 with
    | 0 => match restB (imgs f ⟨a, b⟩ n).1 n with
      | true => amI f n a r (acc ++ [⟨a, b⟩])
      | false => amI f n a r acc
    | 1 => none
    | _ + 2 => amI f n a r acc
theorem amI_1 {f : List Pt} {n : Nat} {a b : Rt} {r : List Rt} {acc : List Iv} (h : (imgs f ⟨a, b⟩ n).2.2 = 1) : amI f n a (b :: r) acc = none := by rw [amI, h]
theorem amI_2 {f : List Pt} {n : Nat} {a b : Rt} {r : List Rt} {acc : List Iv} (h : (imgs f ⟨a, b⟩ n).2.2 = 2) : amI f n a (b :: r) acc = amI f n a r acc := by rw [amI, h]
theorem amI_t {f : List Pt} {n : Nat} {a b : Rt} {r : List Rt} {acc : List Iv} (h : (imgs f ⟨a, b⟩ n).2.2 = 0) (h2 : restB (imgs f ⟨a, b⟩ n).1 n = true) : amI f n a (b :: r) acc = amI f n a r (acc ++ [⟨a, b⟩]) := by rw [amI, h, h2]
theorem amI_f {f : List Pt} {n : Nat} {a b : Rt} {r : List Rt} {acc : List Iv} (h : (imgs f ⟨a, b⟩ n).2.2 = 0) (h2 : restB (imgs f ⟨a, b⟩ n).1 n = false) : amI f n a (b :: r) acc = amI f n a r acc := by rw [amI, h, h2]
noncomputable def amO (f : List Pt) (n : Nat) : List Rt → List Iv → Option (List Iv)
  | [], acc => some acc
  | a :: r, acc => (amI f n a r acc).bind (amO f n r)
theorem drop_cons {xs : List Rt} {k : Nat} (h : k < xs.length) : xs.drop k = getA zR xs k :: xs.drop (k + 1) := by
  rw [List.drop_eq_getElem_cons h, getA_lt _ _ _ h]
noncomputable def amOk (f : List Pt) (xs : List Rt) (n : Int) : Bool := mapOk f && (partOk xs && inB n 1 12)
noncomputable def amRes (f : List Pt) (xs : List Rt) (n : Int) : List Iv × Bool := match amOk f xs n with
  | true => match amO f n.toNat xs [] with
    | some l => (l, true)
    | none => ([], false)
  | false => ([], false)
theorem am_f1 {f : List Pt} {xs : List Rt} {n : Int} (h : mapOk f = false) : amRes f xs n = ([], false) := by unfold amRes amOk; rw [h]; rfl
theorem am_f2 {f : List Pt} {xs : List Rt} {n : Int} (h : partOk xs = false) : amRes f xs n = ([], false) := by unfold amRes amOk; rw [h]; cases mapOk f <;> rfl
theorem am_f3 {f : List Pt} {xs : List Rt} {n : Int} (h : inB n 1 12 = false) : amRes f xs n = ([], false) := by unfold amRes amOk; rw [h]; cases mapOk f <;> cases partOk xs <;> rfl
theorem am_t {f : List Pt} {xs : List Rt} {n : Int} (h : mapOk f = true) (h2 : partOk xs = true) (h3 : inB n 1 12 = true) {l : List Iv} (h4 : amO f n.toNat xs [] = some l) : amRes f xs n = (l, true) := by unfold amRes amOk; rw [h, h2, h3, h4]; rfl
theorem am_n {f : List Pt} {xs : List Rt} {n : Int} (h : mapOk f = true) (h2 : partOk xs = true) (h3 : inB n 1 12 = true) (h4 : amO f n.toNat xs [] = none) : amRes f xs n = ([], false) := by unfold amRes amOk; rw [h, h2, h3, h4]; rfl

noncomputable def s_spec_rnSingle : Sig := ⟨91, [.list .pt, .val .iv, .val NI], [.val .bool, .val .bool], fun ((f : List Pt), (i : Iv), (n : Int), _) => ⟨[mapOk f = true, ivOk i = true, 0 ≤ n, n ≤ 12], (decide ((imgs f i n.toNat).2.2 = 2), !decide ((imgs f i n.toNat).2.2 = 1), ()), ()⟩⟩
theorem gA {X : List Iv × Iv × Nat} {y : Iv} (h : X = ([], y, 2)) : true = decide (X.2.2 = 2) := by rw [h]; rfl
theorem gB {X : List Iv × Iv × Nat} {y : Iv} (h : X = ([], y, 2)) : true = !decide (X.2.2 = 1) := by rw [h]; rfl
theorem gC {X : List Iv × Iv × Nat} {y : Iv} (h : X = ([], y, 1)) : false = decide (X.2.2 = 2) := by rw [h]; rfl
theorem gD {X : List Iv × Iv × Nat} {y : Iv} (h : X = ([], y, 1)) : false = !decide (X.2.2 = 1) := by rw [h]; rfl
theorem g0 {n m : Nat} (h : n = 0) : true = !decide (n = m + 1) := by rw [h]; rfl
theorem ok_spec_rnSingle : GSpec Tryz.prog s_spec_rnSingle := by
  refine fn_known tab_ok fol (Known.nil.cons ok_spec_imImage (by kernel_rfl)) (by decide) Tryz.func91 ?_
  rintro ⟨(f : List Pt), ⟨⟨(n : Int), (d : Int)⟩, ⟨(m : Int), (e : Int)⟩⟩, (k : Int), ⟨⟩⟩ ⟨hl, _⟩ ⟨h1, h2, h3, h4, _⟩
  have hl : f.length ≤ 9223372036854775807 := hl
  obtain ⟨k, rfl⟩ := Int.eq_ofNat_of_zero_le h3
  refine ⟨Nat, fun j => ⟨[(2, .sc (.num .i64 ((k : Int) - j)))], [100000], [(4, .box iT [.num .i64 (imgs f ⟨⟨n, d⟩, ⟨m, e⟩⟩ j).2.1.a.num, .num .i64 (imgs f ⟨⟨n, d⟩, ⟨m, e⟩⟩ j).2.1.a.den, .num .i64 (imgs f ⟨⟨n, d⟩, ⟨m, e⟩⟩ j).2.1.b.num, .num .i64 (imgs f ⟨⟨n, d⟩, ⟨m, e⟩⟩ j).2.1.b.den])]⟩, fun j => j ≤ k ∧ (imgs f ⟨⟨n, d⟩, ⟨m, e⟩⟩ j).2.2 = 0, fun j => k - j, ⟨0, ⟨Nat.zero_le _, rfl⟩, ?_⟩, ?_⟩
  · repeat' (first | apply And.intro | exact True.intro | exact Lf.mk (by with_reducible rfl) | apply Lf.mk)
    all_goals first | rfl | omega | skip
  · rintro j ⟨g1, g2⟩
    obtain ⟨q1, q2, q3, q4⟩ := (imgs_inv h1 h2 j).1 g2
    obtain ⟨u1, u2, u3⟩ := ivOk_iff.1 q2
    obtain ⟨r1, r2, r3⟩ := imO_rg h1 u1 u2
    have r1 := unit_good r1
    have r2 := unit_good r2
    repeat' (first | with_reducible apply andAll_cons | with_reducible apply andAll_nil | (with_reducible apply Cf.mk; kernel_rfl) | apply And.intro | intro _ | exact True.intro | apply Lf.mk)
    all_goals (try simp only [Bool.not_eq_true', Bool.not_eq_false', Bool.not_not, decide_eq_true_eq, decide_eq_false_iff_not, beq_iff_eq, bne_iff_ne, beq_eq_false_iff_ne, bne_eq_false_iff_eq, ne_eq, Bool.and_eq_true, Bool.and_eq_false_iff, Bool.or_eq_true, Bool.or_eq_false_iff, Int.toNat_natCast, Nat.zero_add, Int.ofNat_lt, Int.ofNat_le, List.length_cons, List.length_nil, List.drop_zero, List.take_length] at *)
    all_goals first
      | omega
      | assumption
      | exact gA (imgs_A2 g2 (by omega) (by assumption) (by assumption))
      | exact gB (imgs_A2 g2 (by omega) (by assumption) (by assumption))
      | exact gC (imgs_B g2 (by omega) (by assumption))
      | exact gD (imgs_B g2 (by omega) (by assumption))
      | exact f0 ((show j = k by omega) ▸ g2)
      | exact g0 ((show j = k by omega) ▸ g2)
      | skip
    · have e := imgs_C2 g2 (by assumption) (by assumption)
      refine ⟨j + 1, ⟨by omega, by rw [e]⟩, by omega, ?_⟩
      repeat' (first | apply And.intro | exact True.intro | exact Lf.mk (by with_reducible rfl) | apply Lf.mk)
      all_goals first | (rw [Int.natCast_add]; rfl) | (rw [e]; done) | (rw [e]; rfl) | (rw [Int.natCast_add]; omega) | skip
noncomputable def s_impl_RestrictiveAmong : Sig := ⟨21, [.list .pt, .list .rat, .val NI], [.list iT .iv, .val .bool], fun ((f : List Pt), (xs : List Rt), (n : Int), _) => ⟨[], ((amRes f xs n).1, (amRes f xs n).2, ()), ()⟩⟩
noncomputable def s_spec_RestrictiveAmong : Sig := ⟨22, [.list .pt, .list .rat, .val NI], [.list iT .iv, .val .bool], fun ((f : List Pt), (xs : List Rt), (n : Int), _) => ⟨[], ((amRes f xs n).1, (amRes f xs n).2, ()), ()⟩⟩
section
variable {f : List Pt} {n : Nat} {xs : List Rt} {k q : Nat} {acc : List Iv} {X : Option (List Iv)}
theorem am1 (hq : k + 1 + q < xs.length) (h : (imgs f ⟨getA zR xs k, getA zR xs (k + 1 + q)⟩ n).2.2 = 1) (e : (amI f n (getA zR xs k) (xs.drop (k + 1 + q)) acc).bind (amO f n (xs.drop (k + 1))) = X) : X = none := by
  rw [← e, drop_cons hq, amI_1 h]; rfl
theorem am2 (hq : k + 1 + q < xs.length) (h : (imgs f ⟨getA zR xs k, getA zR xs (k + 1 + q)⟩ n).2.2 = 2) (e : (amI f n (getA zR xs k) (xs.drop (k + 1 + q)) acc).bind (amO f n (xs.drop (k + 1))) = X) : (amI f n (getA zR xs k) (xs.drop (k + 1 + (q + 1))) acc).bind (amO f n (xs.drop (k + 1))) = X := by
  rw [← e, drop_cons hq, amI_2 h]; rfl
theorem am3 (hq : k + 1 + q < xs.length) (h : (imgs f ⟨getA zR xs k, getA zR xs (k + 1 + q)⟩ n).2.2 = 0) (h2 : restB (imgs f ⟨getA zR xs k, getA zR xs (k + 1 + q)⟩ n).1 n = true) (e : (amI f n (getA zR xs k) (xs.drop (k + 1 + q)) acc).bind (amO f n (xs.drop (k + 1))) = X) : (amI f n (getA zR xs k) (xs.drop (k + 1 + (q + 1))) (acc ++ [⟨getA zR xs k, getA zR xs (k + 1 + q)⟩])).bind (amO f n (xs.drop (k + 1))) = X := by
  rw [← e, drop_cons hq, amI_t h h2]; rfl
theorem am4 (hq : k + 1 + q < xs.length) (h : (imgs f ⟨getA zR xs k, getA zR xs (k + 1 + q)⟩ n).2.2 = 0) (h2 : restB (imgs f ⟨getA zR xs k, getA zR xs (k + 1 + q)⟩ n).1 n = false) (e : (amI f n (getA zR xs k) (xs.drop (k + 1 + q)) acc).bind (amO f n (xs.drop (k + 1))) = X) : (amI f n (getA zR xs k) (xs.drop (k + 1 + (q + 1))) acc).bind (amO f n (xs.drop (k + 1))) = X := by
  rw [← e, drop_cons hq, amI_f h h2]; rfl
theorem am5 (hq : ¬ k + 1 + q < xs.length) (e : (amI f n (getA zR xs k) (xs.drop (k + 1 + q)) acc).bind (amO f n (xs.drop (k + 1))) = X) : amO f n (xs.drop (k + 1)) acc = X := by
  have h0 : xs.drop (k + 1 + q) = [] := List.drop_eq_nil_of_le (by omega)
  rw [← e, h0]; rfl
theorem am6 (hk : ¬ k < xs.length) (e : amO f n (xs.drop k) acc = X) : X = some acc := by
  have h0 : xs.drop k = [] := List.drop_eq_nil_of_le (by omega)
  rw [← e, h0]; rfl
end
theorem len2 {L : List Iv} {m : Nat} (h : L.length = m + 1) (h1 : 1 ≤ m) : 2 ≤ L.length := by omega
theorem len13 {L : List Iv} {m : Nat} (h : L.length = m + 1) (h1 : m ≤ 12) : L.length ≤ 13 := by omega
theorem restn {L : List Iv} {m : Nat} {b : Bool} (h : L.length = m + 1) (hr : restB L (L.length - 1) = b) : restB L m = b := by rw [h] at hr; exact hr
theorem code0 {f : List Pt} {i : Iv} {k : Nat} (h1 : ¬ (imgs f i k).2.2 = 1) (h2 : ¬ (imgs f i k).2.2 = 2) : (imgs f i k).2.2 = 0 := by have := imgs_code f i k; omega
set_option maxHeartbeats 2000000 in
theorem ok_impl_RestrictiveAmong : GSpec Tryz.prog s_impl_RestrictiveAmong := by
  refine fn_known tab_ok fol (((((Known.nil.cons ok_impl_isMap (by kernel_rfl)).cons ok_impl_isPartition (by kernel_rfl)).cons ok_impl_within (by kernel_rfl)).cons ok_calc_images (by kernel_rfl)).cons ok_impl_isRestrictive (by kernel_rfl)) (by decide) Tryz.func21 ?_
  rintro ⟨(f : List Pt), (xs : List Rt), (n : Int), ⟨⟩⟩ - -
  repeat' (first | with_reducible apply andAll_cons | with_reducible apply andAll_nil | (with_reducible apply Cf.mk; kernel_rfl) | apply And.intro | intro _ | exact True.intro | apply Lf.mk)
  all_goals (try simp only [Bool.not_eq_true', Bool.not_eq_false', Bool.not_not, decide_eq_true_eq, decide_eq_false_iff_not, beq_iff_eq, bne_iff_ne, beq_eq_false_iff_ne, bne_eq_false_iff_eq, ne_eq, Bool.and_eq_true, Bool.and_eq_false_iff, Bool.or_eq_true, Bool.or_eq_false_iff, Int.toNat_natCast, Nat.zero_add, Int.ofNat_lt, Int.ofNat_le, List.length_cons, List.length_nil, List.drop_zero, List.take_length] at *)
  all_goals first
    | (rw [am_f1 (by assumption)]; done)
    | (rw [am_f2 (by assumption)]; done)
    | (rw [am_f3 (by assumption)]; done)
    | skip
  rename_i hm hp hn
  obtain ⟨p1, p2, p3, p4, p5⟩ := part_iff.1 hp
  have hn2 := of_decide_eq_true hn
  refine ⟨Nat × List Iv, fun x => ⟨[(31, .sc (.num .i64 x.1)), (9, .sc (.own 7777777))], [100000, 100001], [(8, .box cT [.bool false]), (7777777, .row iT .iv x.2)]⟩, fun x => x.1 ≤ xs.length ∧ x.2.length ≤ 9 * x.1 ∧ amO f n.toNat (xs.drop x.1) x.2 = amO f n.toNat xs [], fun x => xs.length - x.1, ⟨(0, []), ⟨Nat.zero_le _, Nat.zero_le _, rfl⟩, ?_⟩, ?_⟩
  · repeat' (first | apply And.intro | exact True.intro | exact Lf.mk (by with_reducible rfl) | apply Lf.mk)
    all_goals first | rfl | simp
  · rintro ⟨k, acc⟩ ⟨g1, g2, g3⟩
    dsimp only at g1 g2 g3
    repeat' (first | with_reducible apply andAll_cons | with_reducible apply andAll_nil | (with_reducible apply Cf.mk; kernel_rfl) | apply And.intro | intro _ | exact True.intro | apply Lf.mk)
    all_goals (try simp only [Bool.not_eq_true', Bool.not_eq_false', Bool.not_not, decide_eq_true_eq, decide_eq_false_iff_not, beq_iff_eq, bne_iff_ne, beq_eq_false_iff_ne, bne_eq_false_iff_eq, ne_eq, Bool.and_eq_true, Bool.and_eq_false_iff, Bool.or_eq_true, Bool.or_eq_false_iff, Int.toNat_natCast, Nat.zero_add, Int.ofNat_lt, Int.ofNat_le, List.length_cons, List.length_nil, List.drop_zero, List.take_length] at *)
    all_goals first | omega | skip
    · rename_i hk
      refine ⟨Nat × List Iv, fun x => ⟨[(41, .sc (.num .i64 x.1)), (9, .sc (.own 8888888))], [100000, 100001, 11], [(8, .box cT [.bool false]), (8888888, .row iT .iv x.2)]⟩, fun x => k + 1 + x.1 ≤ xs.length ∧ x.2.length ≤ 9 * k + x.1 ∧ (amI f n.toNat (getA zR xs k) (xs.drop (k + 1 + x.1)) x.2).bind (amO f n.toNat (xs.drop (k + 1))) = amO f n.toNat xs [], fun x => xs.length - x.1, ⟨(0, acc), ⟨by dsimp only; omega, by dsimp only; omega, by rw [← g3, drop_cons hk]; rfl⟩, ?_⟩, ?_⟩
      · repeat' (first | apply And.intro | exact True.intro | exact Lf.mk (by with_reducible rfl) | apply Lf.mk)
        all_goals first | rfl | simp
      · rintro ⟨q, acc⟩ ⟨e1, e2, e3⟩
        dsimp only at e1 e2 e3
        repeat' (first | with_reducible apply andAll_cons | with_reducible apply andAll_nil | (with_reducible apply Cf.mk; kernel_rfl) | apply And.intro | intro _ | exact True.intro | apply Lf.mk)
        all_goals (try simp only [Bool.not_eq_true', Bool.not_eq_false', Bool.not_not, decide_eq_true_eq, decide_eq_false_iff_not, beq_iff_eq, bne_iff_ne, beq_eq_false_iff_ne, bne_eq_false_iff_eq, ne_eq, Bool.and_eq_true, Bool.and_eq_false_iff, Bool.or_eq_true, Bool.or_eq_false_iff, Int.toNat_natCast, Nat.zero_add, Int.ofNat_lt, Int.ofNat_le, List.length_cons, List.length_nil, List.drop_zero, List.take_length] at *)
        all_goals (try simp only [succ_nat] at *)
        all_goals first
          | omega
          | assumption
          | exact part_iv hp (by omega) (by omega)
          | (rw [am_n hm hp hn (am1 (by omega) (by assumption) e3)]; done)
          | (have j0 := code0 (by assumption) (by assumption)
             obtain ⟨j1, j2, j3, j4⟩ := (imgs_inv hm (part_iv hp (i := k) (j := k + 1 + q) (by omega) (by omega)) n.toNat).1 j0
             first | exact len2 j1 (by omega) | exact len13 j1 (by omega) | exact j3 _ (by assumption))
          | (show (_ + 1) * 32 ≤ 140737488355328; omega)
          | skip
        · rename_i c0 c1 c2 c3
          have hq : k + 1 + q < xs.length := by omega
          have j0 := code0 c1 c2
          obtain ⟨j1, j2, j3, j4⟩ := (imgs_inv hm (part_iv hp (i := k) (j := k + 1 + q) (by omega) hq) n.toNat).1 j0
          refine ⟨(q + 1, acc ++ [⟨getA zR xs k, getA zR xs (k + 1 + q)⟩]), ⟨by dsimp only; omega, by simp only [List.length_append, List.length_singleton]; omega, am3 hq j0 (restn j1 c3) e3⟩, by dsimp only; omega, ?_⟩
          repeat' (first | apply And.intro | exact True.intro | exact Lf.mk (by with_reducible rfl) | apply Lf.mk)
          all_goals first | rfl | (rw [Int.natCast_add]; rfl) | exact decide_eq_false c1
        · rename_i c0 c1 c2 c3
          have hq : k + 1 + q < xs.length := by omega
          have j0 := code0 c1 c2
          obtain ⟨j1, j2, j3, j4⟩ := (imgs_inv hm (part_iv hp (i := k) (j := k + 1 + q) (by omega) hq) n.toNat).1 j0
          refine ⟨(q + 1, acc), ⟨by dsimp only; omega, by dsimp only; omega, am4 hq j0 (restn j1 c3) e3⟩, by dsimp only; omega, ?_⟩
          repeat' (first | apply And.intro | exact True.intro | exact Lf.mk (by with_reducible rfl) | apply Lf.mk)
          all_goals first | rfl | (rw [Int.natCast_add]; rfl) | exact decide_eq_false c1
        · rename_i c0 c1 c2
          have hq : k + 1 + q < xs.length := by omega
          refine ⟨(q + 1, acc), ⟨by dsimp only; omega, by dsimp only; omega, am2 hq c2 e3⟩, by dsimp only; omega, ?_⟩
          repeat' (first | apply And.intro | exact True.intro | exact Lf.mk (by with_reducible rfl) | apply Lf.mk)
          all_goals first | rfl | (rw [Int.natCast_add]; rfl) | exact decide_eq_false c1
        · rename_i c0
          refine ⟨(k + 1, acc), ⟨by dsimp only; omega, by dsimp only; omega, am5 (by omega) e3⟩, by dsimp only; omega, ?_⟩
          repeat' (first | apply And.intro | exact True.intro | exact Lf.mk (by with_reducible rfl) | apply Lf.mk)
          all_goals first | rfl | (rw [Int.natCast_add]; rfl)
    · rw [am_t hm hp hn (am6 (by assumption) g3)]
    · rw [am_t hm hp hn (am6 (by assumption) g3)]
end Go.Vx
namespace Go.Vx
open Go Go.Proofs
set_option maxRecDepth 100000
set_option linter.unusedSimpArgs false
set_option linter.unusedVariables false
set_option maxHeartbeats 20000000 in
theorem ok_spec_RestrictiveAmong : GSpec Tryz.prog s_spec_RestrictiveAmong := by
  refine fn_known tab_ok fol (((((Known.nil.cons ok_spec_imGood (by kernel_rfl)).cons ok_spec_mkGood (by kernel_rfl)).cons ok_spec_rnSteps (by kernel_rfl)).cons ok_spec_rnSingle (by kernel_rfl)).cons ok_spec_rnRestrictive (by kernel_rfl)) (by decide) Tryz.func22 ?_
  rintro ⟨(f : List Pt), (xs : List Rt), (n : Int), ⟨⟩⟩ - -
  repeat' (first | with_reducible apply andAll_cons | with_reducible apply andAll_nil | (with_reducible apply Cf.mk; kernel_rfl) | apply And.intro | intro _ | exact True.intro | apply Lf.mk)
  all_goals (try simp only [Bool.not_eq_true', Bool.not_eq_false', Bool.not_not, decide_eq_true_eq, decide_eq_false_iff_not, beq_iff_eq, bne_iff_ne, beq_eq_false_iff_ne, bne_eq_false_iff_eq, ne_eq, Bool.and_eq_true, Bool.and_eq_false_iff, Bool.or_eq_true, Bool.or_eq_false_iff, Int.toNat_natCast, Nat.zero_add, Int.ofNat_lt, Int.ofNat_le, List.length_cons, List.length_nil, List.drop_zero, List.take_length] at *)
  all_goals first
    | (rw [am_f1 (by assumption)]; done)
    | (rw [am_f2 (by assumption)]; done)
    | (rw [am_f3 (by assumption)]; done)
    | skip
  rename_i hm hp hn
  obtain ⟨p1, p2, p3, p4, p5⟩ := part_iff.1 hp
  have hn2 := of_decide_eq_true hn
  refine ⟨Nat × List Iv, fun x => ⟨[(33, .sc (.num .i64 x.1)), (8, .sc (.own 7777777))], [100000, 100001], [(7777777, .row iT .iv x.2)]⟩, fun x => x.1 ≤ xs.length ∧ x.2.length ≤ 9 * x.1 ∧ amO f n.toNat (xs.drop x.1) x.2 = amO f n.toNat xs [], fun x => xs.length - x.1, ⟨(0, []), ⟨Nat.zero_le _, Nat.zero_le _, rfl⟩, ?_⟩, ?_⟩
  · repeat' (first | apply And.intro | exact True.intro | exact Lf.mk (by with_reducible rfl) | apply Lf.mk)
    all_goals first | rfl | simp
  · rintro ⟨k, acc⟩ ⟨g1, g2, g3⟩
    dsimp only at g1 g2 g3
    repeat' (first | with_reducible apply andAll_cons | with_reducible apply andAll_nil | (with_reducible apply Cf.mk; kernel_rfl) | apply And.intro | intro _ | exact True.intro | apply Lf.mk)
    all_goals (try simp only [Bool.not_eq_true', Bool.not_eq_false', Bool.not_not, decide_eq_true_eq, decide_eq_false_iff_not, beq_iff_eq, bne_iff_ne, beq_eq_false_iff_ne, bne_eq_false_iff_eq, ne_eq, Bool.and_eq_true, Bool.and_eq_false_iff, Bool.or_eq_true, Bool.or_eq_false_iff, Int.toNat_natCast, Nat.zero_add, Int.ofNat_lt, Int.ofNat_le, List.length_cons, List.length_nil, List.drop_zero, List.take_length] at *)
    all_goals first | omega | skip
    · rename_i hk
      refine ⟨Nat × List Iv, fun x => ⟨[(43, .sc (.num .i64 x.1)), (8, .sc (.own 8888888))], [100000, 100001, 10], [(8888888, .row iT .iv x.2)]⟩, fun x => k + 1 + x.1 ≤ xs.length ∧ x.2.length ≤ 9 * k + x.1 ∧ (amI f n.toNat (getA zR xs k) (xs.drop (k + 1 + x.1)) x.2).bind (amO f n.toNat (xs.drop (k + 1))) = amO f n.toNat xs [], fun x => xs.length - x.1, ⟨(0, acc), ⟨by dsimp only; omega, by dsimp only; omega, by rw [← g3, drop_cons hk]; rfl⟩, ?_⟩, ?_⟩
      · repeat' (first | apply And.intro | exact True.intro | exact Lf.mk (by with_reducible rfl) | apply Lf.mk)
        all_goals first | rfl | simp
      · rintro ⟨q, acc⟩ ⟨e1, e2, e3⟩
        dsimp only at e1 e2 e3
        repeat' (first | with_reducible apply andAll_cons | with_reducible apply andAll_nil | (with_reducible apply Cf.mk; kernel_rfl) | apply And.intro | intro _ | exact True.intro | apply Lf.mk)
        all_goals (try simp only [Bool.not_eq_true', Bool.not_eq_false', Bool.not_not, decide_eq_true_eq, decide_eq_false_iff_not, beq_iff_eq, bne_iff_ne, beq_eq_false_iff_ne, bne_eq_false_iff_eq, ne_eq, Bool.and_eq_true, Bool.and_eq_false_iff, Bool.or_eq_true, Bool.or_eq_false_iff, Int.toNat_natCast, Nat.zero_add, Int.ofNat_lt, Int.ofNat_le, List.length_cons, List.length_nil, List.drop_zero, List.take_length] at *)
        all_goals (try simp only [succ_nat] at *)
        all_goals first
          | omega
          | assumption
          | exact part_iv hp (by omega) (by omega)
          | (rw [am_n hm hp hn (am1 (by omega) (by assumption) e3)]; done)
          | (have j0 := code0 (by assumption) (by assumption)
             obtain ⟨j1, j2, j3, j4⟩ := (imgs_inv hm (part_iv hp (i := k) (j := k + 1 + q) (by omega) (by omega)) n.toNat).1 j0
             first | exact len2 j1 (by omega) | exact len13 j1 (by omega) | exact j3 _ (by assumption))
          | (show (_ + 1) * 32 ≤ 140737488355328; omega)
          | skip
        · rename_i c0 c1 c2
          have hq : k + 1 + q < xs.length := by omega
          refine ⟨(q + 1, acc), ⟨by dsimp only; omega, by dsimp only; omega, am2 hq c2 e3⟩, by dsimp only; omega, ?_⟩
          repeat' (first | apply And.intro | exact True.intro | exact Lf.mk (by with_reducible rfl) | apply Lf.mk)
          all_goals first | rfl | (rw [Int.natCast_add]; rfl)
        · exact retOk_iff.2 ⟨hm, part_iv hp (i := k) (j := k + 1 + q) (by omega) (by omega), hn2.1, hn2.2⟩
        · rename_i c0 c1 c2 c3
          have hq : k + 1 + q < xs.length := by omega
          have j0 := code0 c1 c2
          refine ⟨(q + 1, acc ++ [⟨getA zR xs k, getA zR xs (k + 1 + q)⟩]), ⟨by dsimp only; omega, by simp only [List.length_append, List.length_singleton]; omega, am3 hq j0 ((congrArg Prod.fst (rr_t j0)).symm.trans c3) e3⟩, by dsimp only; omega, ?_⟩
          repeat' (first | apply And.intro | exact True.intro | exact Lf.mk (by with_reducible rfl) | apply Lf.mk)
          all_goals first | rfl | (rw [Int.natCast_add]; rfl)
        · rename_i c0 c1 c2 c3
          have hq : k + 1 + q < xs.length := by omega
          have j0 := code0 c1 c2
          refine ⟨(q + 1, acc), ⟨by dsimp only; omega, by dsimp only; omega, am4 hq j0 ((congrArg Prod.fst (rr_t j0)).symm.trans c3) e3⟩, by dsimp only; omega, ?_⟩
          repeat' (first | apply And.intro | exact True.intro | exact Lf.mk (by with_reducible rfl) | apply Lf.mk)
          all_goals first | rfl | (rw [Int.natCast_add]; rfl)
        · rename_i c0
          refine ⟨(k + 1, acc), ⟨by dsimp only; omega, by dsimp only; omega, am5 (by omega) e3⟩, by dsimp only; omega, ?_⟩
          repeat' (first | apply And.intro | exact True.intro | exact Lf.mk (by with_reducible rfl) | apply Lf.mk)
          all_goals first | rfl | (rw [Int.natCast_add]; rfl)
    · rw [am_t hm hp hn (am6 (by assumption) g3)]
    · rw [am_t hm hp hn (am6 (by assumption) g3)]
theorem amI_len (f : List Pt) (n : Nat) (a : Rt) : ∀ (bs : List Rt) (acc l : List Iv), amI f n a bs acc = some l → l.length ≤ acc.length + bs.length
  | [], acc, l, h => by cases h; exact Nat.le_refl _
  | b :: r, acc, l, h => by
    rcases imgs_code f ⟨a, b⟩ n with c | c | c
    · cases c2 : restB (imgs f ⟨a, b⟩ n).1 n with
      | true =>
        rw [amI_t c c2] at h
        have := amI_len f n a r _ l h
        simp only [List.length_append, List.length_cons, List.length_nil] at *; omega
      | false =>
        rw [amI_f c c2] at h
        have := amI_len f n a r _ l h
        simp only [List.length_cons] at *; omega
    · rw [amI_1 c] at h; cases h
    · rw [amI_2 c] at h
      have := amI_len f n a r _ l h
      simp only [List.length_cons] at *; omega
theorem amO_len (f : List Pt) (n : Nat) : ∀ (us : List Rt) (acc l : List Iv), amO f n us acc = some l → l.length ≤ acc.length + us.length * us.length
  | [], acc, l, h => by cases h; simp
  | a :: r, acc, l, h => by
    rw [amO] at h
    cases h1 : amI f n a r acc with
    | none => rw [h1] at h; cases h
    | some acc' =>
      rw [h1] at h
      have h2 := amI_len f n a r acc acc' h1
      have h3 := amO_len f n r acc' l h
      rw [List.length_cons, Nat.add_mul, Nat.mul_add]; omega
theorem am_len (f : List Pt) (xs : List Rt) (n : Int) : (amRes f xs n).1.length ≤ 81 := by
  cases h : amOk f xs n with
  | false => unfold amRes; rw [h]; exact Nat.zero_le _
  | true =>
    have hp : partOk xs = true := by
      unfold amOk at h; rw [Bool.and_eq_true, Bool.and_eq_true] at h; exact h.2.1
    have h9 := (part_iff.1 hp).1
    unfold amRes; rw [h]
    cases h1 : amO f n.toNat xs [] with
    | none => exact Nat.zero_le _
    | some l =>
      have h2 := amO_len f n.toNat xs [] l h1
      have h3 := Nat.mul_le_mul h9.2 h9.2
      simp only [List.length_nil] at h2
      dsimp only; omega
end Go.Vx
