/- Changes: plain facts. -/
import Derived.Test.YtjiafbjoijffjaaGreatPk16
import Derived.Test.YtjiafbjoijffjaaGreatPk14
namespace Go.Vx
open Go Go.Proofs
set_option maxRecDepth 100000
set_option linter.unusedSimpArgs false
set_option linter.unusedVariables false

set_option maxHeartbeats 1000000 in
theorem ex_cur_returnSteps : ∃ (V : Cur → Int) (S : Cur → Cur), (∀ (c : Cur), AtOk 10 c → (-1 ≤ (V c) ∧ (V c) ≤ 100)) ∧ (∀ (c : Cur), Adv 10 c (S c)) ∧ GSpec Tryz.prog ⟨83, [.cell 93 .cur], [.val NI], fun ((c : Cur), _) => ⟨[AtOk 10 c], (V c, ()), (S c, ())⟩⟩ := by
  obtain ⟨V, S, h1, h2, h3⟩ := some_c (P := Tryz.prog) tab_ok fol (Known.nil.cons ok_cur_among (by kernel_rfl)) (f := 83) (t := 93) (ks := []) (rs := [.val NI]) (by decide) Tryz.func83 10 (fun y => match y with | (_) => []) (fun y R => match y, R with | (_), ((v : Int), _) => -1 ≤ v ∧ v ≤ 100) (fun _ _ => rfl) (by
    rintro c ⟨⟩ hl hc hpre
    repeat' (first | with_reducible apply andAll_cons | with_reducible apply andAll_nil | (with_reducible apply Cf.mk; kernel_rfl) | apply And.intro | intro _ | exact True.intro | apply Lf.mk)
    all_goals (try dsimp only at *)
    all_goals (try simp only [cur_eta, rt_eta_, List.length_cons, List.length_nil, Nat.zero_add, Nat.reduceAdd, Int.cast_ofNat_Int] at *)
    all_goals (try simp only [Bool.not_eq_true', Bool.not_eq_false', Bool.not_not, decide_eq_true_eq, decide_eq_false_iff_not, beq_iff_eq, bne_iff_ne, beq_eq_false_iff_ne, bne_eq_false_iff_eq, ne_eq, Bool.and_eq_true, Bool.and_eq_false_iff, Bool.or_eq_true, Bool.or_eq_false_iff, Int.toNat_natCast, Nat.zero_add, Int.ofNat_lt, Int.ofNat_le, List.length_cons, List.length_nil, List.drop_zero, List.take_length] at *)
    all_goals first | ((try simp only [anyS_r, ratS_r, uniS_r, ordS_r, pickS_r, nextS_r, imGridS_r, imdS_r, anyImS_r, xofS_r, ivofS_r]); (first | exact ⟨100000, rfl⟩ | exact rawIn_adv (by assumption) ⟨100000, rfl⟩)) | ((repeat (first | apply pick_at | apply any_at | apply uni_at | apply ord_at | apply rat_at | apply next_at | apply imGrid_at | apply imd_at | apply anyIm_at | apply xof_at | apply ivof_at)); exact AtOk.le (by assumption) (by first | decide | omega)) | omega | (show inI64 _; unfold inI64; omega) | (show 1 ≤ List.length _; simp; done) | (show _ * 32 ≤ 140737488355328; omega) | (show _ * 16 ≤ 140737488355328; omega) | with_reducible assumption | contradiction | exact unit_good_ (by assumption) | exact pk1 (by decide) (by decide) | exact pk2 (by decide) (by decide) | exact pk3 (by decide) (by decide) | exact pk4 (by decide) (by decide) | exact pk5 (by decide) (by decide) | skip
    · apply some_end (ks := [.cell 93 .cur]) (rs := [.val NI]) (_, ()) (_, ())
      · repeat' (first | apply And.intro | exact True.intro | exact Lf.mk (by with_reducible rfl) | apply Lf.mk | with_reducible exact Eq.refl _)
      · dsimp only
        refine ⟨?_, by ((repeat (first | apply adv_pick | apply adv_any | apply adv_uni | apply adv_ord | apply adv_rat | apply adv_next | apply adv_imGrid | apply adv_imd | apply adv_anyIm | apply adv_xof | apply adv_ivof)); (first | exact Adv.refl _ _ | exact Adv.le (by assumption) (by first | decide | omega)))⟩
        refine among_all (p := fun x => -1 ≤ x ∧ x ≤ 100) (fun x hx => ?_) (by simp)
        have := among_rng c (l := [0, 13]) 0 13 (by decide) (by decide)
        simp only [List.mem_cons, List.not_mem_nil, or_false] at hx
        omega)
  exact ⟨fun c => (V c ()).1, fun c => S c (), fun c hA => h1 c () trivial hA trivial, fun c => h2 c (), h3⟩
@[irreducible] noncomputable def rstV : Cur → Int := Classical.choose ex_cur_returnSteps
@[irreducible] noncomputable def rstS : Cur → Cur := Classical.choose (Classical.choose_spec ex_cur_returnSteps)
theorem rst_spec : (∀ (c : Cur), AtOk 10 c → (-1 ≤ (rstV c) ∧ (rstV c) ≤ 100)) ∧ (∀ (c : Cur), Adv 10 c (rstS c)) ∧ GSpec Tryz.prog ⟨83, [.cell 93 .cur], [.val NI], fun ((c : Cur), _) => ⟨[AtOk 10 c], (rstV c, ()), (rstS c, ())⟩⟩ := by
  unfold rstV rstS
  exact (Classical.choose_spec (Classical.choose_spec ex_cur_returnSteps))
theorem rst_ok {c : Cur} (hA : AtOk 10 c) : -1 ≤ (rstV c) ∧ (rstV c) ≤ 100 := rst_spec.1 c hA
theorem rstS_r (c : Cur) : (rstS c).r = c.r := (rst_spec.2.1 c).r
theorem rst_at {m : Nat} {c : Cur} (h : AtOk (m + 10) c) : AtOk m (rstS c) := (rst_spec.2.1 c).at_ h
theorem adv_rst {k : Nat} {c d : Cur} (h : Adv k c d) : Adv (k + 10) c (rstS d) := h.trans (rst_spec.2.1 d) (Nat.le_refl _)
noncomputable def s_cur_returnSteps : Sig := ⟨83, [.cell 93 .cur], [.val NI], fun ((c : Cur), _) => ⟨[AtOk 10 c], (rstV c, ()), (rstS c, ())⟩⟩
theorem ok_cur_returnSteps : GSpec Tryz.prog s_cur_returnSteps := rst_spec.2.2

set_option maxHeartbeats 40000000 in
theorem ex_cur_strictMap : ∃ (V : Cur → List Pt) (S : Cur → Cur), (∀ (c : Cur), AtOk 700 c → ((V c).length ≤ 62)) ∧ (∀ (c : Cur), Adv 700 c (S c)) ∧ GSpec Tryz.prog ⟨154, [.cell 93 .cur], [.list 107 .pt], fun ((c : Cur), _) => ⟨[AtOk 700 c], (V c, ()), (S c, ())⟩⟩ := by
  obtain ⟨V, S, h1, h2, h3⟩ := some_c (P := Tryz.prog) tab_ok fol ((((((((Known.nil.cons ok_cur_anyIm (by kernel_rfl)).cons ok_cur_one (by kernel_rfl)).cons ok_cur_among (by kernel_rfl)).cons ok_cur_gridRat (by kernel_rfl)).cons ok_spec_raMake (by kernel_rfl)).cons ok_spec_imMirror (by kernel_rfl)).cons ok_spec_raInt (by kernel_rfl)).cons ok_cur_pick (by kernel_rfl)) (f := 154) (t := 93) (ks := []) (rs := [.list 107 .pt]) (by decide) Tryz.func154 700 (fun y => match y with | (_) => []) (fun y R => match y, R with | (_), ((v : List Pt), _) => v.length ≤ 62) (fun _ _ => rfl) (by
    rintro c ⟨⟩ hl hc hpre
    have hn := among_rng (pickS c 4) (l := [2, 3, 4, 4, 6]) 2 6 (by decide) (by decide)
    repeat' (first | with_reducible apply andAll_cons | with_reducible apply andAll_nil | (with_reducible apply Cf.mk; kernel_rfl) | apply And.intro | intro _ | exact True.intro | apply Lf.mk)
    all_goals (try dsimp only at *)
    all_goals (try simp only [cur_eta, rt_eta_, List.length_cons, List.length_nil, Nat.zero_add, Nat.reduceAdd, Int.cast_ofNat_Int] at *)
    all_goals (try simp only [Bool.not_eq_true', Bool.not_eq_false', Bool.not_not, decide_eq_true_eq, decide_eq_false_iff_not, beq_iff_eq, bne_iff_ne, beq_eq_false_iff_ne, bne_eq_false_iff_eq, ne_eq, Bool.and_eq_true, Bool.and_eq_false_iff, Bool.or_eq_true, Bool.or_eq_false_iff, Int.toNat_natCast, Nat.zero_add, Int.ofNat_lt, Int.ofNat_le, List.length_cons, List.length_nil, List.drop_zero, List.take_length] at *)
    all_goals first | ((try simp only [anyS_r, ratS_r, uniS_r, ordS_r, pickS_r, nextS_r, imGridS_r, imdS_r, anyImS_r, xofS_r, ivofS_r, rstS_r]); (first | exact ⟨100000, rfl⟩ | exact rawIn_adv (by assumption) ⟨100000, rfl⟩)) | ((repeat (first | apply pick_at | apply any_at | apply uni_at | apply ord_at | apply rat_at | apply next_at | apply imGrid_at | apply imd_at | apply anyIm_at | apply xof_at | apply ivof_at | apply rst_at)); exact AtOk.le (by assumption) (by first | decide | omega)) | omega | (show inI64 _; unfold inI64; omega) | (show 1 ≤ List.length _; simp; done) | (show _ * 32 ≤ 140737488355328; omega) | (show _ * 16 ≤ 140737488355328; omega) | with_reducible assumption | contradiction | exact unit_good_ (by assumption) | exact pk1 (by decide) (by decide) | exact pk2 (by decide) (by decide) | exact pk3 (by decide) (by decide) | exact pk4 (by decide) (by decide) | exact pk5 (by decide) (by decide) | skip
    · have := anyIm_ok (c := pickS c 4) (pick_at (hc.le (by decide)))
      (apply some_end (ks := [.cell 93 .cur]) (rs := [.list 107 .pt]) (_, ()) (_, ()); (case h => ((repeat' (first | apply And.intro | exact True.intro | exact Lf.mk (by with_reducible rfl) | apply Lf.mk | with_reducible exact Eq.refl _)); all_goals (first | rfl | omega | skip))); (case q => ((try dsimp only); refine ⟨?_, by ((repeat (first | apply adv_pick | apply adv_any | apply adv_uni | apply adv_ord | apply adv_rat | apply adv_next | apply adv_imGrid | apply adv_imd | apply adv_anyIm | apply adv_xof | apply adv_ivof | apply adv_rst)); (first | exact Adv.refl _ _ | exact Adv.le (by assumption) (by first | decide | omega)))⟩; (first | exact trivial | omega | (rw [List.length_set]; omega) | (rw [List.length_take]; omega) | (simp only [List.length_cons, List.length_nil]; omega) | (simp; done) | skip))))
    · generalize hnn : amongV (pickS c 4) [2, 3, 4, 4, 6] = n at *
      refine ⟨Cur × List Pt × Nat, fun x => ⟨[(5, .sc (.num .i64 x.2.2)), (4, .sc (.own 7777777))], [], [(7777777, .row 107 .pt x.2.1), (100000, cuB x.1)]⟩, fun x => Adv (6 + 4 * x.2.2) c x.1 ∧ x.2.1.length = x.2.2 ∧ (x.2.2 : Int) ≤ n + 1, fun x => (n + 1).toNat - x.2.2, ?_, ?_⟩
      · apply start_go (_, ([] : List Pt), 0)
        · repeat' (first | apply And.intro | exact True.intro | exact Lf.mk (by with_reducible rfl) | apply Lf.mk | with_reducible exact Eq.refl _)
          all_goals first | rfl | trace_state
        · dsimp only
          exact ⟨by ((repeat (first | apply adv_pick | apply adv_any | apply adv_uni | apply adv_ord | apply adv_rat | apply adv_next | apply adv_imGrid | apply adv_imd | apply adv_anyIm | apply adv_xof | apply adv_ivof | apply adv_rst)); (first | exact Adv.refl _ _ | exact Adv.le (by assumption) (by first | decide | omega))), rfl, by omega⟩
      · rintro ⟨d, f, i⟩ ⟨k1, k2, k3⟩
        dsimp only at k1 k2 k3
        have hd : AtOk 500 d := Adv.at_ k1 (hc.le (by omega))
        have hm := mod2_rng i
        have hg := fun h h2 => griV_good (c := d) (n := n) h h2
        repeat' (first | with_reducible apply andAll_cons | with_reducible apply andAll_nil | (with_reducible apply Cf.mk; kernel_rfl) | apply And.intro | intro _ | exact True.intro | apply Lf.mk)
        all_goals (try dsimp only at *)
        all_goals (try simp only [cur_eta, rt_eta_, List.length_cons, List.length_nil, Nat.zero_add, Nat.reduceAdd, Int.cast_ofNat_Int] at *)
        all_goals (try simp only [Bool.not_eq_true', Bool.not_eq_false', Bool.not_not, decide_eq_true_eq, decide_eq_false_iff_not, beq_iff_eq, bne_iff_ne, beq_eq_false_iff_ne, bne_eq_false_iff_eq, ne_eq, Bool.and_eq_true, Bool.and_eq_false_iff, Bool.or_eq_true, Bool.or_eq_false_iff, Int.toNat_natCast, Nat.zero_add, Int.ofNat_lt, Int.ofNat_le, List.length_cons, List.length_nil, List.drop_zero, List.take_length] at *)
        all_goals first | ((try simp only [anyS_r, ratS_r, uniS_r, ordS_r, pickS_r, nextS_r, imGridS_r, imdS_r, anyImS_r, xofS_r, ivofS_r, rstS_r]); (first | exact ⟨100000, rfl⟩ | exact rawIn_adv (by assumption) ⟨100000, rfl⟩)) | ((repeat (first | apply pick_at | apply any_at | apply uni_at | apply ord_at | apply rat_at | apply next_at | apply imGrid_at | apply imd_at | apply anyIm_at | apply xof_at | apply ivof_at | apply rst_at)); exact AtOk.le (by assumption) (by first | decide | omega)) | omega | (show inI64 _; unfold inI64; omega) | (show 1 ≤ List.length _; simp; done) | (show _ * 32 ≤ 140737488355328; omega) | (show _ * 16 ≤ 140737488355328; omega) | with_reducible assumption | contradiction | exact unit_good_ (by assumption) | exact pk1 (by decide) (by decide) | exact pk2 (by decide) (by decide) | exact pk3 (by decide) (by decide) | exact pk4 (by decide) (by decide) | exact pk5 (by decide) (by decide) | skip
        all_goals first
          | exact hg (by omega) (by omega)
          | (apply round_go (_, _, i + 1)
             · repeat' (first | apply And.intro | exact True.intro | exact Lf.mk (by with_reducible rfl) | apply Lf.mk | with_reducible exact Eq.refl _)
               all_goals first | rfl | (rw [Int.natCast_add]; rfl)
             · dsimp only; omega
             · dsimp only
               exact ⟨by first | exact (k1.trans (pick_adv _ _) (k := 8 + 4 * i) (by omega)).trans (pick_adv _ _) (by omega) | exact k1.trans (pick_adv _ _) (by omega), by rw [List.length_append, k2]; rfl, by omega⟩)
          | skip
        · refine ⟨List Pt × Nat, fun x => ⟨[(9, .sc (.num .i64 x.2)), (4, .sc (.own 8888888))], [100000], [(8888888, .row 107 .pt x.1)]⟩, fun x => x.1.length = x.2 ∧ x.2 ≤ 12, fun x => 12 - x.2, ?_, ?_⟩
          · apply start_go (([] : List Pt), 0)
            · repeat' (first | apply And.intro | exact True.intro | exact Lf.mk (by with_reducible rfl) | apply Lf.mk | with_reducible exact Eq.refl _)
              all_goals first | rfl | trace_state
            · dsimp only
              exact ⟨rfl, by omega⟩
          · rintro ⟨g, j⟩ ⟨j1, j2⟩
            dsimp only at j1 j2
            have hm2 := mod2_rng j
            repeat' (first | with_reducible apply andAll_cons | with_reducible apply andAll_nil | (with_reducible apply Cf.mk; kernel_rfl) | apply And.intro | intro _ | exact True.intro | apply Lf.mk)
            all_goals (try dsimp only at *)
            all_goals (try simp only [cur_eta, rt_eta_, List.length_cons, List.length_nil, Nat.zero_add, Nat.reduceAdd, Int.cast_ofNat_Int] at *)
            all_goals (try simp only [Bool.not_eq_true', Bool.not_eq_false', Bool.not_not, decide_eq_true_eq, decide_eq_false_iff_not, beq_iff_eq, bne_iff_ne, beq_eq_false_iff_ne, bne_eq_false_iff_eq, ne_eq, Bool.and_eq_true, Bool.and_eq_false_iff, Bool.or_eq_true, Bool.or_eq_false_iff, Int.toNat_natCast, Nat.zero_add, Int.ofNat_lt, Int.ofNat_le, List.length_cons, List.length_nil, List.drop_zero, List.take_length] at *)
            all_goals first | ((try simp only [anyS_r, ratS_r, uniS_r, ordS_r, pickS_r, nextS_r, imGridS_r, imdS_r, anyImS_r, xofS_r, ivofS_r, rstS_r]); (first | exact ⟨100000, rfl⟩ | exact rawIn_adv (by assumption) ⟨100000, rfl⟩)) | ((repeat (first | apply pick_at | apply any_at | apply uni_at | apply ord_at | apply rat_at | apply next_at | apply imGrid_at | apply imd_at | apply anyIm_at | apply xof_at | apply ivof_at | apply rst_at)); exact AtOk.le (by assumption) (by first | decide | omega)) | omega | (show inI64 _; unfold inI64; omega) | (show 1 ≤ List.length _; simp; done) | (show _ * 32 ≤ 140737488355328; omega) | (show _ * 16 ≤ 140737488355328; omega) | with_reducible assumption | contradiction | exact unit_good_ (by assumption) | exact pk1 (by decide) (by decide) | exact pk2 (by decide) (by decide) | exact pk3 (by decide) (by decide) | exact pk4 (by decide) (by decide) | exact pk5 (by decide) (by decide) | skip
            · apply round_go (_, j + 1)
              · repeat' (first | apply And.intro | exact True.intro | exact Lf.mk (by with_reducible rfl) | apply Lf.mk | with_reducible exact Eq.refl _)
                all_goals first | rfl | (rw [Int.natCast_add]; rfl)
              · dsimp only; omega
              · dsimp only
                exact ⟨by rw [List.length_append, j1]; rfl, by omega⟩
            all_goals (apply some_end (ks := [.cell 93 .cur]) (rs := [.list 107 .pt]) (_, ()) (_, ()); (case h => ((repeat' (first | apply And.intro | exact True.intro | exact Lf.mk (by with_reducible rfl) | apply Lf.mk | with_reducible exact Eq.refl _)); all_goals (first | rfl | omega | skip))); (case q => ((try dsimp only); refine ⟨?_, by ((repeat (first | apply adv_pick | apply adv_any | apply adv_uni | apply adv_ord | apply adv_rat | apply adv_next | apply adv_imGrid | apply adv_imd | apply adv_anyIm | apply adv_xof | apply adv_ivof | apply adv_rst)); (first | exact Adv.refl _ _ | exact Adv.le (by assumption) (by first | decide | omega)))⟩; (first | exact trivial | omega | (rw [List.length_set]; omega) | (rw [List.length_take]; omega) | (simp only [List.length_cons, List.length_nil]; omega) | (simp; done) | skip))))
        all_goals (apply some_end (ks := [.cell 93 .cur]) (rs := [.list 107 .pt]) (_, ()) (_, ()); (case h => ((repeat' (first | apply And.intro | exact True.intro | exact Lf.mk (by with_reducible rfl) | apply Lf.mk | with_reducible exact Eq.refl _)); all_goals (first | rfl | omega | skip))); (case q => ((try dsimp only); refine ⟨?_, by ((repeat (first | apply adv_pick | apply adv_any | apply adv_uni | apply adv_ord | apply adv_rat | apply adv_next | apply adv_imGrid | apply adv_imd | apply adv_anyIm | apply adv_xof | apply adv_ivof | apply adv_rst)); (first | exact Adv.refl _ _ | exact Adv.le (by assumption) (by first | decide | omega)))⟩; (first | exact trivial | omega | (rw [List.length_set]; omega) | (rw [List.length_take]; omega) | (simp only [List.length_cons, List.length_nil]; omega) | (simp; done) | skip)))))
  exact ⟨fun c => (V c ()).1, fun c => S c (), fun c hA => h1 c () trivial hA trivial, fun c => h2 c (), h3⟩
@[irreducible] noncomputable def strmV : Cur → List Pt := Classical.choose ex_cur_strictMap
@[irreducible] noncomputable def strmS : Cur → Cur := Classical.choose (Classical.choose_spec ex_cur_strictMap)
theorem strm_spec : (∀ (c : Cur), AtOk 700 c → ((strmV c).length ≤ 62)) ∧ (∀ (c : Cur), Adv 700 c (strmS c)) ∧ GSpec Tryz.prog ⟨154, [.cell 93 .cur], [.list 107 .pt], fun ((c : Cur), _) => ⟨[AtOk 700 c], (strmV c, ()), (strmS c, ())⟩⟩ := by
  unfold strmV strmS
  exact (Classical.choose_spec (Classical.choose_spec ex_cur_strictMap))
theorem strm_ok {c : Cur} (hA : AtOk 700 c) : (strmV c).length ≤ 62 := strm_spec.1 c hA
theorem strmS_r (c : Cur) : (strmS c).r = c.r := (strm_spec.2.1 c).r
theorem strm_at {m : Nat} {c : Cur} (h : AtOk (m + 700) c) : AtOk m (strmS c) := (strm_spec.2.1 c).at_ h
theorem adv_strm {k : Nat} {c d : Cur} (h : Adv k c d) : Adv (k + 700) c (strmS d) := h.trans (strm_spec.2.1 d) (Nat.le_refl _)
noncomputable def s_cur_strictMap : Sig := ⟨154, [.cell 93 .cur], [.list 107 .pt], fun ((c : Cur), _) => ⟨[AtOk 700 c], (strmV c, ()), (strmS c, ())⟩⟩
theorem ok_cur_strictMap : GSpec Tryz.prog s_cur_strictMap := strm_spec.2.2
end Go.Vx
namespace Go.Vx
open Go Go.Proofs
set_option maxRecDepth 100000
set_option linter.unusedSimpArgs false
set_option linter.unusedVariables false

set_option maxHeartbeats 1000000 in
theorem ex_spec_knTent : ∃ (V : Rt → List Pt), (∀ (h : Rt), ((V h).length = 3)) ∧ GSpec Tryz.prog ⟨153, [.val .rat], [.list 107 .pt], fun ((h : Rt), _) => ⟨[], (V h, ()), ()⟩⟩ := by
  obtain ⟨V, O, h1, h3⟩ := fn_some (P := Tryz.prog) tab_ok fol (Known.nil.cons ok_spec_raInt (by kernel_rfl)) (f := 153) (ks := [.val .rat]) (rs := [.list 107 .pt]) (by decide) Tryz.func153 (pre := fun y => match y with | ((h : Rt), _) => []) (Q := fun y R _ => match y, R with | ((h : Rt), _), ((v : List Pt), _) => v.length = 3) (by
    rintro ⟨(h : Rt), ⟨⟩⟩ hl hpre
    repeat' (first | with_reducible apply andAll_cons | with_reducible apply andAll_nil | (with_reducible apply Cf.mk; kernel_rfl) | apply And.intro | intro _ | exact True.intro | apply Lf.mk)
    all_goals (try dsimp only at *)
    all_goals (try simp only [cur_eta, rt_eta_, List.length_cons, List.length_nil, Nat.zero_add, Nat.reduceAdd, Int.cast_ofNat_Int] at *)
    all_goals (try simp only [Bool.not_eq_true', Bool.not_eq_false', Bool.not_not, decide_eq_true_eq, decide_eq_false_iff_not, beq_iff_eq, bne_iff_ne, beq_eq_false_iff_ne, bne_eq_false_iff_eq, ne_eq, Bool.and_eq_true, Bool.and_eq_false_iff, Bool.or_eq_true, Bool.or_eq_false_iff, Int.toNat_natCast, Nat.zero_add, Int.ofNat_lt, Int.ofNat_le, List.length_cons, List.length_nil, List.drop_zero, List.take_length] at *)
    all_goals first | ((try simp only [anyS_r, ratS_r, uniS_r, ordS_r, pickS_r, nextS_r, imGridS_r, imdS_r, anyImS_r, xofS_r, ivofS_r, rstS_r, strmS_r]); (first | exact ⟨100000, rfl⟩ | exact rawIn_adv (by assumption) ⟨100000, rfl⟩)) | ((repeat (first | apply pick_at | apply any_at | apply uni_at | apply ord_at | apply rat_at | apply next_at | apply imGrid_at | apply imd_at | apply anyIm_at | apply xof_at | apply ivof_at | apply rst_at | apply strm_at)); exact AtOk.le (by assumption) (by first | decide | omega)) | omega | (show inI64 _; unfold inI64; omega) | (show 1 ≤ List.length _; simp; done) | (show _ * 32 ≤ 140737488355328; omega) | (show _ * 16 ≤ 140737488355328; omega) | with_reducible assumption | contradiction | exact unit_good_ (by assumption) | exact pk1 (by decide) (by decide) | exact pk2 (by decide) (by decide) | exact pk3 (by decide) (by decide) | exact pk4 (by decide) (by decide) | exact pk5 (by decide) (by decide) | skip
    all_goals (apply some_end (ks := [.val .rat]) (rs := [.list 107 .pt]) (_, ()) (); (case h => ((repeat' (first | apply And.intro | exact True.intro | exact Lf.mk (by with_reducible rfl) | apply Lf.mk | with_reducible exact Eq.refl _)); all_goals (first | rfl | omega | skip))); (case q => ((try dsimp only); (first | exact trivial | omega | (rw [List.length_set]; omega) | (rw [List.length_take]; omega) | (simp only [List.length_cons, List.length_nil]; omega) | (simp; done) | skip)))))
  exact ⟨fun h => (V (h, ())).1, fun h => h1 (h, ()) trivial trivial, h3⟩
@[irreducible] noncomputable def tentwV : Rt → List Pt := Classical.choose ex_spec_knTent
theorem tentw_spec : (∀ (h : Rt), ((tentwV h).length = 3)) ∧ GSpec Tryz.prog ⟨153, [.val .rat], [.list 107 .pt], fun ((h : Rt), _) => ⟨[], (tentwV h, ()), ()⟩⟩ := by
  unfold tentwV
  exact (Classical.choose_spec ex_spec_knTent)
theorem tentw_ok {h : Rt} : (tentwV h).length = 3 := tentw_spec.1 h
noncomputable def s_spec_knTent : Sig := ⟨153, [.val .rat], [.list 107 .pt], fun ((h : Rt), _) => ⟨[], (tentwV h, ()), ()⟩⟩
theorem ok_spec_knTent : GSpec Tryz.prog s_spec_knTent := tentw_spec.2

set_option maxHeartbeats 4000000 in
theorem ex_cur_homecoming : ∃ (V1 : Cur → List Pt) (V2 : Cur → Iv) (S : Cur → Cur), (∀ (c : Cur), AtOk 810 c → ((V1 c).length ≤ 62)) ∧ (∀ (c : Cur), Adv 810 c (S c)) ∧ GSpec Tryz.prog ⟨79, [.cell 93 .cur], [.list 107 .pt, .val .iv], fun ((c : Cur), _) => ⟨[AtOk 810 c], (V1 c, V2 c, ()), (S c, ())⟩⟩ := by
  obtain ⟨V, S, h1, h2, h3⟩ := some_c (P := Tryz.prog) tab_ok fol ((((((Known.nil.cons ok_cur_pick (by kernel_rfl)).cons ok_spec_knTent (by kernel_rfl)).cons ok_spec_raInt (by kernel_rfl)).cons ok_cur_one (by kernel_rfl)).cons ok_cur_strictMap (by kernel_rfl)).cons ok_cur_intervalOf (by kernel_rfl)) (f := 79) (t := 93) (ks := []) (rs := [.list 107 .pt, .val .iv]) (by decide) Tryz.func79 810 (fun y => match y with | (_) => []) (fun y R => match y, R with | (_), ((v1 : List Pt), (v2 : Iv), _) => v1.length ≤ 62) (fun _ _ => rfl) (by
    rintro c ⟨⟩ hl hc hpre
    have h1 := tentw_ok (h := ⟨2, 3⟩)
    have h2 := strm_ok (c := pickS c 6) (pick_at (hc.le (by decide)))
    repeat' (first | with_reducible apply andAll_cons | with_reducible apply andAll_nil | (with_reducible apply Cf.mk; kernel_rfl) | apply And.intro | intro _ | exact True.intro | apply Lf.mk)
    all_goals (try dsimp only at *)
    all_goals (try simp only [cur_eta, rt_eta_, List.length_cons, List.length_nil, Nat.zero_add, Nat.reduceAdd, Int.cast_ofNat_Int] at *)
    all_goals (try simp only [Bool.not_eq_true', Bool.not_eq_false', Bool.not_not, decide_eq_true_eq, decide_eq_false_iff_not, beq_iff_eq, bne_iff_ne, beq_eq_false_iff_ne, bne_eq_false_iff_eq, ne_eq, Bool.and_eq_true, Bool.and_eq_false_iff, Bool.or_eq_true, Bool.or_eq_false_iff, Int.toNat_natCast, Nat.zero_add, Int.ofNat_lt, Int.ofNat_le, List.length_cons, List.length_nil, List.drop_zero, List.take_length] at *)
    all_goals first | ((try simp only [anyS_r, ratS_r, uniS_r, ordS_r, pickS_r, nextS_r, imGridS_r, imdS_r, anyImS_r, xofS_r, ivofS_r, rstS_r, strmS_r]); (first | exact ⟨100000, rfl⟩ | exact rawIn_adv (by assumption) ⟨100000, rfl⟩)) | ((repeat (first | apply pick_at | apply any_at | apply uni_at | apply ord_at | apply rat_at | apply next_at | apply imGrid_at | apply imd_at | apply anyIm_at | apply xof_at | apply ivof_at | apply rst_at | apply strm_at)); exact AtOk.le (by assumption) (by first | decide | omega)) | omega | (show inI64 _; unfold inI64; omega) | (show 1 ≤ List.length _; simp; done) | (show _ * 32 ≤ 140737488355328; omega) | (show _ * 16 ≤ 140737488355328; omega) | with_reducible assumption | contradiction | exact unit_good_ (by assumption) | exact pk1 (by decide) (by decide) | exact pk2 (by decide) (by decide) | exact pk3 (by decide) (by decide) | exact pk4 (by decide) (by decide) | exact pk5 (by decide) (by decide) | skip
    all_goals (apply some_end (ks := [.cell 93 .cur]) (rs := [.list 107 .pt, .val .iv]) (_, _, ()) (_, ()); (case h => ((repeat' (first | apply And.intro | exact True.intro | exact Lf.mk (by with_reducible rfl) | apply Lf.mk | with_reducible exact Eq.refl _)); all_goals (first | rfl | omega | skip))); (case q => ((try dsimp only); refine ⟨?_, by ((repeat (first | apply adv_pick | apply adv_any | apply adv_uni | apply adv_ord | apply adv_rat | apply adv_next | apply adv_imGrid | apply adv_imd | apply adv_anyIm | apply adv_xof | apply adv_ivof | apply adv_rst | apply adv_strm)); (first | exact Adv.refl _ _ | exact Adv.le (by assumption) (by first | decide | omega)))⟩; (first | exact trivial | omega | (rw [List.length_set]; omega) | (rw [List.length_take]; omega) | (simp only [List.length_cons, List.length_nil]; omega) | (simp; done) | skip)))))
  exact ⟨fun c => (V c ()).1, fun c => (V c ()).2.1, fun c => S c (), fun c hA => h1 c () trivial hA trivial, fun c => h2 c (), h3⟩
@[irreducible] noncomputable def homecV1 : Cur → List Pt := Classical.choose ex_cur_homecoming
@[irreducible] noncomputable def homecV2 : Cur → Iv := Classical.choose (Classical.choose_spec ex_cur_homecoming)
@[irreducible] noncomputable def homecS : Cur → Cur := Classical.choose (Classical.choose_spec (Classical.choose_spec ex_cur_homecoming))
theorem homec_spec : (∀ (c : Cur), AtOk 810 c → ((homecV1 c).length ≤ 62)) ∧ (∀ (c : Cur), Adv 810 c (homecS c)) ∧ GSpec Tryz.prog ⟨79, [.cell 93 .cur], [.list 107 .pt, .val .iv], fun ((c : Cur), _) => ⟨[AtOk 810 c], (homecV1 c, homecV2 c, ()), (homecS c, ())⟩⟩ := by
  unfold homecV1 homecV2 homecS
  exact (Classical.choose_spec (Classical.choose_spec (Classical.choose_spec ex_cur_homecoming)))
theorem homec_ok {c : Cur} (hA : AtOk 810 c) : (homecV1 c).length ≤ 62 := homec_spec.1 c hA
theorem homecS_r (c : Cur) : (homecS c).r = c.r := (homec_spec.2.1 c).r
theorem homec_at {m : Nat} {c : Cur} (h : AtOk (m + 810) c) : AtOk m (homecS c) := (homec_spec.2.1 c).at_ h
theorem adv_homec {k : Nat} {c d : Cur} (h : Adv k c d) : Adv (k + 810) c (homecS d) := h.trans (homec_spec.2.1 d) (Nat.le_refl _)
noncomputable def s_cur_homecoming : Sig := ⟨79, [.cell 93 .cur], [.list 107 .pt, .val .iv], fun ((c : Cur), _) => ⟨[AtOk 810 c], (homecV1 c, homecV2 c, ()), (homecS c, ())⟩⟩
theorem ok_cur_homecoming : GSpec Tryz.prog s_cur_homecoming := homec_spec.2.2

set_option maxHeartbeats 4000000 in
theorem ex_spec_DrawImagesOf : ∃ (V1 : Raw → List Pt) (V2 : Raw → Iv) (V3 : Raw → Int), (∀ (r : Raw), ((V1 r).length ≤ 62)) ∧ GSpec Tryz.prog ⟨67, [.val .raw], [.list 107 .pt, .val .iv, .val NI], fun ((r : Raw), _) => ⟨[], (V1 r, V2 r, V3 r, ()), ()⟩⟩ := by
  obtain ⟨V, O, h1, h3⟩ := fn_some (P := Tryz.prog) tab_ok fol ((((Known.nil.cons ok_cur_homecoming (by kernel_rfl)).cons ok_cur_one (by kernel_rfl)).cons ok_cur_anyIm (by kernel_rfl)).cons ok_cur_returnSteps (by kernel_rfl)) (f := 67) (ks := [.val .raw]) (rs := [.list 107 .pt, .val .iv, .val NI]) (by decide) Tryz.func67 (pre := fun y => match y with | ((r : Raw), _) => []) (Q := fun y R _ => match y, R with | ((r : Raw), _), ((v1 : List Pt), (v2 : Iv), (v3 : Int), _) => v1.length ≤ 62) (by
    rintro ⟨(r : Raw), ⟨⟩⟩ hl hpre
    have hz := cz_at r
    have h1 := homec_ok (hz.le (by decide))
    have h2 := anyIm_ok (c := pickS (homecS ⟨r, 0, 0⟩) 6) (by ((repeat (first | apply pick_at | apply any_at | apply uni_at | apply ord_at | apply rat_at | apply next_at | apply imGrid_at | apply imd_at | apply anyIm_at | apply xof_at | apply ivof_at | apply rst_at | apply strm_at | apply homec_at)); exact AtOk.le (by assumption) (by first | decide | omega)))
    repeat' (first | with_reducible apply andAll_cons | with_reducible apply andAll_nil | (with_reducible apply Cf.mk; kernel_rfl) | apply And.intro | intro _ | exact True.intro | apply Lf.mk)
    all_goals (try dsimp only at *)
    all_goals (try simp only [cur_eta, rt_eta_, List.length_cons, List.length_nil, Nat.zero_add, Nat.reduceAdd, Int.cast_ofNat_Int] at *)
    all_goals (try simp only [Bool.not_eq_true', Bool.not_eq_false', Bool.not_not, decide_eq_true_eq, decide_eq_false_iff_not, beq_iff_eq, bne_iff_ne, beq_eq_false_iff_ne, bne_eq_false_iff_eq, ne_eq, Bool.and_eq_true, Bool.and_eq_false_iff, Bool.or_eq_true, Bool.or_eq_false_iff, Int.toNat_natCast, Nat.zero_add, Int.ofNat_lt, Int.ofNat_le, List.length_cons, List.length_nil, List.drop_zero, List.take_length] at *)
    all_goals first | ((try simp only [anyS_r, ratS_r, uniS_r, ordS_r, pickS_r, nextS_r, imGridS_r, imdS_r, anyImS_r, xofS_r, ivofS_r, rstS_r, strmS_r, homecS_r]); (first | exact ⟨100000, rfl⟩ | exact rawIn_adv (by assumption) ⟨100000, rfl⟩)) | ((repeat (first | apply pick_at | apply any_at | apply uni_at | apply ord_at | apply rat_at | apply next_at | apply imGrid_at | apply imd_at | apply anyIm_at | apply xof_at | apply ivof_at | apply rst_at | apply strm_at | apply homec_at)); exact AtOk.le (by assumption) (by first | decide | omega)) | omega | (show inI64 _; unfold inI64; omega) | (show 1 ≤ List.length _; simp; done) | (show _ * 32 ≤ 140737488355328; omega) | (show _ * 16 ≤ 140737488355328; omega) | with_reducible assumption | contradiction | exact unit_good_ (by assumption) | exact pk1 (by decide) (by decide) | exact pk2 (by decide) (by decide) | exact pk3 (by decide) (by decide) | exact pk4 (by decide) (by decide) | exact pk5 (by decide) (by decide) | skip
    all_goals (apply some_end (ks := [.val .raw]) (rs := [.list 107 .pt, .val .iv, .val NI]) (_, _, _, ()) (); (case h => ((repeat' (first | apply And.intro | exact True.intro | exact Lf.mk (by with_reducible rfl) | apply Lf.mk | with_reducible exact Eq.refl _)); all_goals (first | rfl | omega | skip))); (case q => ((try dsimp only); (first | exact trivial | omega | (rw [List.length_set]; omega) | (rw [List.length_take]; omega) | (simp only [List.length_cons, List.length_nil]; omega) | (simp; done) | skip)))))
  exact ⟨fun r => (V (r, ())).1, fun r => (V (r, ())).2.1, fun r => (V (r, ())).2.2.1, fun r => h1 (r, ()) trivial trivial, h3⟩
@[irreducible] noncomputable def dImgV1 : Raw → List Pt := Classical.choose ex_spec_DrawImagesOf
@[irreducible] noncomputable def dImgV2 : Raw → Iv := Classical.choose (Classical.choose_spec ex_spec_DrawImagesOf)
@[irreducible] noncomputable def dImgV3 : Raw → Int := Classical.choose (Classical.choose_spec (Classical.choose_spec ex_spec_DrawImagesOf))
theorem dImg_spec : (∀ (r : Raw), ((dImgV1 r).length ≤ 62)) ∧ GSpec Tryz.prog ⟨67, [.val .raw], [.list 107 .pt, .val .iv, .val NI], fun ((r : Raw), _) => ⟨[], (dImgV1 r, dImgV2 r, dImgV3 r, ()), ()⟩⟩ := by
  unfold dImgV1 dImgV2 dImgV3
  exact (Classical.choose_spec (Classical.choose_spec (Classical.choose_spec ex_spec_DrawImagesOf)))
theorem dImg_ok {r : Raw} : (dImgV1 r).length ≤ 62 := dImg_spec.1 r
noncomputable def s_spec_DrawImagesOf : Sig := ⟨67, [.val .raw], [.list 107 .pt, .val .iv, .val NI], fun ((r : Raw), _) => ⟨[], (dImgV1 r, dImgV2 r, dImgV3 r, ()), ()⟩⟩
theorem ok_spec_DrawImagesOf : GSpec Tryz.prog s_spec_DrawImagesOf := dImg_spec.2
theorem ex_spec_DrawIsRestrictive : ∃ (V1 : Raw → List Pt) (V2 : Raw → Iv) (V3 : Raw → Int), (∀ (r : Raw), ((V1 r).length ≤ 62)) ∧ GSpec Tryz.prog ⟨8, [.val .raw], [.list 107 .pt, .val .iv, .val NI], fun ((r : Raw), _) => ⟨[], (V1 r, V2 r, V3 r, ()), ()⟩⟩ := by
  obtain ⟨V, O, h1, h3⟩ := fn_some (P := Tryz.prog) tab_ok fol (Known.nil.cons ok_spec_DrawImagesOf (by kernel_rfl)) (f := 8) (ks := [.val .raw]) (rs := [.list 107 .pt, .val .iv, .val NI]) (by decide) Tryz.func8 (pre := fun y => match y with | ((r : Raw), _) => []) (Q := fun y R _ => match y, R with | ((r : Raw), _), ((v1 : List Pt), (v2 : Iv), (v3 : Int), _) => v1.length ≤ 62) (by
    rintro ⟨(r : Raw), ⟨⟩⟩ hl hpre
    have h1 := dImg_ok (r := r)
    repeat' (first | with_reducible apply andAll_cons | with_reducible apply andAll_nil | (with_reducible apply Cf.mk; kernel_rfl) | apply And.intro | intro _ | exact True.intro | apply Lf.mk)
    all_goals (try dsimp only at *)
    all_goals (try simp only [cur_eta, rt_eta_, List.length_cons, List.length_nil, Nat.zero_add, Nat.reduceAdd, Int.cast_ofNat_Int] at *)
    all_goals (try simp only [Bool.not_eq_true', Bool.not_eq_false', Bool.not_not, decide_eq_true_eq, decide_eq_false_iff_not, beq_iff_eq, bne_iff_ne, beq_eq_false_iff_ne, bne_eq_false_iff_eq, ne_eq, Bool.and_eq_true, Bool.and_eq_false_iff, Bool.or_eq_true, Bool.or_eq_false_iff, Int.toNat_natCast, Nat.zero_add, Int.ofNat_lt, Int.ofNat_le, List.length_cons, List.length_nil, List.drop_zero, List.take_length] at *)
    all_goals first | ((try simp only [anyS_r, ratS_r, uniS_r, ordS_r, pickS_r, nextS_r, imGridS_r, imdS_r, anyImS_r, xofS_r, ivofS_r, rstS_r, strmS_r, homecS_r]); (first | exact ⟨100000, rfl⟩ | exact rawIn_adv (by assumption) ⟨100000, rfl⟩)) | ((repeat (first | apply pick_at | apply any_at | apply uni_at | apply ord_at | apply rat_at | apply next_at | apply imGrid_at | apply imd_at | apply anyIm_at | apply xof_at | apply ivof_at | apply rst_at | apply strm_at | apply homec_at)); exact AtOk.le (by assumption) (by first | decide | omega)) | omega | (show inI64 _; unfold inI64; omega) | (show 1 ≤ List.length _; simp; done) | (show _ * 32 ≤ 140737488355328; omega) | (show _ * 16 ≤ 140737488355328; omega) | with_reducible assumption | contradiction | exact unit_good_ (by assumption) | exact pk1 (by decide) (by decide) | exact pk2 (by decide) (by decide) | exact pk3 (by decide) (by decide) | exact pk4 (by decide) (by decide) | exact pk5 (by decide) (by decide) | skip
    all_goals (apply some_end (ks := [.val .raw]) (rs := [.list 107 .pt, .val .iv, .val NI]) (_, _, _, ()) (); (case h => ((repeat' (first | apply And.intro | exact True.intro | exact Lf.mk (by with_reducible rfl) | apply Lf.mk | with_reducible exact Eq.refl _)); all_goals (first | rfl | omega | skip))); (case q => ((try dsimp only); (first | exact trivial | omega | (rw [List.length_set]; omega) | (rw [List.length_take]; omega) | (simp only [List.length_cons, List.length_nil]; omega) | (simp; done) | skip)))))
  exact ⟨fun r => (V (r, ())).1, fun r => (V (r, ())).2.1, fun r => (V (r, ())).2.2.1, fun r => h1 (r, ()) trivial trivial, h3⟩
@[irreducible] noncomputable def dIsrV1 : Raw → List Pt := Classical.choose ex_spec_DrawIsRestrictive
@[irreducible] noncomputable def dIsrV2 : Raw → Iv := Classical.choose (Classical.choose_spec ex_spec_DrawIsRestrictive)
@[irreducible] noncomputable def dIsrV3 : Raw → Int := Classical.choose (Classical.choose_spec (Classical.choose_spec ex_spec_DrawIsRestrictive))
theorem dIsr_spec : (∀ (r : Raw), ((dIsrV1 r).length ≤ 62)) ∧ GSpec Tryz.prog ⟨8, [.val .raw], [.list 107 .pt, .val .iv, .val NI], fun ((r : Raw), _) => ⟨[], (dIsrV1 r, dIsrV2 r, dIsrV3 r, ()), ()⟩⟩ := by
  unfold dIsrV1 dIsrV2 dIsrV3
  exact (Classical.choose_spec (Classical.choose_spec (Classical.choose_spec ex_spec_DrawIsRestrictive)))
theorem dIsr_ok {r : Raw} : (dIsrV1 r).length ≤ 62 := dIsr_spec.1 r
noncomputable def s_spec_DrawIsRestrictive : Sig := ⟨8, [.val .raw], [.list 107 .pt, .val .iv, .val NI], fun ((r : Raw), _) => ⟨[], (dIsrV1 r, dIsrV2 r, dIsrV3 r, ()), ()⟩⟩
theorem ok_spec_DrawIsRestrictive : GSpec Tryz.prog s_spec_DrawIsRestrictive := dIsr_spec.2
end Go.Vx
namespace Go.Vx
open Go
set_option maxRecDepth 100000
set_option linter.unusedSimpArgs false
set_option linter.unusedVariables false

theorem q_eq {a b : Rt} (ha : goodRt a = true) (hb : goodRt b = true) (h : qR a = qR b) : a = b := by
  have h1 := q_lt ha hb
  have h2 := q_lt hb ha
  have h3 : ¬ qR a < qR b := by grind
  have h4 : ¬ qR b < qR a := by grind
  apply good_eq ha hb
  have h5 : ¬ a.num * b.den < b.num * a.den := fun h => h3 (h1.1 h)
  have h6 : ¬ b.num * a.den < a.num * b.den := fun h => h4 (h2.1 h)
  omega
theorem q_pos {r : Rt} (h : goodRt r = true) : 0 < r.num ↔ 0 < qR r := by
  have h1 := q_lt good_zero h
  rw [q_zero] at h1
  dsimp only at h1
  rw [← h1]; omega
/-- a slope is greater than 0 if the values rise -/
theorem sl_pos {p q : Pt} (hp : ptOk p = true) (hq : ptOk q = true) (h : ltR p.x q.x) : 0 < (slR p q).num ↔ ltR p.y q.y := by
  obtain ⟨s1, s2, s3⟩ := slR_ok hp hq h
  rw [ptOk_iff] at hp hq
  have gx := coord_good hp.1
  have gy := coord_good hp.2
  have gX := coord_good hq.1
  have gY := coord_good hq.2
  have l1 := (q_lt gx gX).1 h
  rw [q_pos s2, show ltR p.y q.y ↔ qR p.y < qR q.y from q_lt gy gY]
  constructor
  · intro h2
    have := Rat.mul_pos h2 (show 0 < qR q.x - qR p.x by grind); grind
  · intro h2
    by_cases h3 : 0 < qR (slR p q)
    · exact h3
    · by_cases h4 : qR (slR p q) = 0
      · rw [h4] at s3; grind
      · have := Rat.mul_pos (show 0 < -qR (slR p q) by grind) (show 0 < qR q.x - qR p.x by grind); grind
def exR (f : List Pt) : List Pt := f.map fun p => ⟨p.y, p.x⟩
theorem exR_length (f : List Pt) : (exR f).length = f.length := by simp [exR]
theorem exR_get {f : List Pt} {i : Nat} (h : i < f.length) : getA zP (exR f) i = ⟨(getA zP f i).y, (getA zP f i).x⟩ := getA_map _ zP zP f i h
noncomputable def chOk (h : List Pt) : Bool := mapOk h && (eqRt (getA zP h 0).y ⟨0, 1⟩ && (eqRt (getA zP h (h.length - 1)).y ⟨1, 1⟩ && risR (h.map Pt.y)))
theorem chOk_iff {h : List Pt} : chOk h = true ↔ (mapOk h = true ∧ (getA zP h 0).y = ⟨0, 1⟩ ∧ (getA zP h (h.length - 1)).y = ⟨1, 1⟩ ∧ ∀ i, i + 1 < h.length → ltR (getA zP h i).y (getA zP h (i + 1)).y) := by
  unfold chOk
  simp only [Bool.and_eq_true, risR_iff, List.length_map, show ∀ a b, (eqRt a b = true) = (a = b) from fun a b => by unfold eqRt; simp]
  constructor
  · intro ⟨h1, h2, h3, h4⟩
    refine ⟨h1, h2, h3, fun i hi => ?_⟩
    have := h4 i hi
    rwa [getA_map Pt.y zP _ _ _ (by omega), getA_map Pt.y zP _ _ _ (by omega)] at this
  · intro ⟨h1, h2, h3, h4⟩
    refine ⟨h1, h2, h3, fun i hi => ?_⟩
    rw [getA_map Pt.y zP _ _ _ (by omega), getA_map Pt.y zP _ _ _ (by omega)]
    exact h4 i hi
theorem ex_map {h : List Pt} (hc : chOk h = true) : mapOk (exR h) = true := by
  obtain ⟨h1, h2, h3, h4⟩ := chOk_iff.1 hc
  obtain ⟨m1, m2, m3, m4, m5⟩ := mapOk_iff.1 h1
  rw [mapOk_iff, exR_length]
  refine ⟨m1, fun p hp => ?_, ?_, ?_, fun i hi => ?_⟩
  · obtain ⟨q, hq, rfl⟩ := List.mem_map.1 hp
    have := ptOk_iff.1 (m2 q hq)
    exact ptOk_iff.2 ⟨this.2, this.1⟩
  · rw [exR_get (by omega)]; exact h2
  · rw [exR_get (by omega)]; exact h3
  · rw [exR_get (by omega), exR_get hi]; exact h4 i hi

/-- X + (y - Y) / s -/
noncomputable def backR (p : Pt) (s y : Rt) : Rt × Bool := match (subRt y p.y).2 with
  | true => match (divRt (subRt y p.y).1 s).2 with
    | true => addRt p.x (divRt (subRt y p.y).1 s).1
    | false => (⟨0, 0⟩, false)
  | false => (⟨0, 0⟩, false)
noncomputable def backO (p : Pt) (s y : Rt) : Rt := opR (addRt p.x (opR (divRt (opR (subRt y p.y)) s)))
theorem backR_1 {p : Pt} {s y : Rt} (h : (subRt y p.y).2 = false) : backR p s y = (⟨0, 0⟩, false) := by unfold backR; rw [h]
theorem backR_2 {p : Pt} {s y : Rt} (h1 : (subRt y p.y).2 = true) (h : (divRt (subRt y p.y).1 s).2 = false) : backR p s y = (⟨0, 0⟩, false) := by unfold backR; rw [h1, h]
theorem backR_3 {p : Pt} {s y : Rt} (h1 : (subRt y p.y).2 = true) (h : (divRt (subRt y p.y).1 s).2 = true) : backR p s y = addRt p.x (divRt (subRt y p.y).1 s).1 := by unfold backR; rw [h1, h]
theorem backR_bad {p : Pt} {s y : Rt} (h : (backR p s y).2 = false) : backR p s y = (⟨0, 0⟩, false) := by
  cases h1 : (subRt y p.y).2 with
  | false => exact backR_1 h1
  | true => cases h2 : (divRt (subRt y p.y).1 s).2 with
    | false => exact backR_2 h1 h2
    | true => rw [backR_3 h1 h2] at h ⊢; exact lowRt_bad h
theorem back_flag (c : Bool) (p : Pt) (s y : Rt) : (((c || !(subRt y p.y).2) || !(divRt (opR (subRt y p.y)) s).2) || !(addRt p.x (opR (divRt (opR (subRt y p.y)) s))).2) = (c || !(backR p s y).2) := by
  cases h1 : (subRt y p.y).2 with
  | false => rw [backR_1 h1]; simp
  | true =>
    rw [opR_t h1]
    cases h2 : (divRt (subRt y p.y).1 s).2 with
    | false => rw [backR_2 h1 h2]; simp
    | true => rw [backR_3 h1 h2, opR_t h2]; simp
theorem backO_t {p : Pt} {s y : Rt} (h : (backR p s y).2 = true) : backO p s y = (backR p s y).1 := by
  cases h1 : (subRt y p.y).2 with
  | false => rw [backR_1 h1] at h; cases h
  | true =>
    cases h2 : (divRt (subRt y p.y).1 s).2 with
    | false => rw [backR_2 h1 h2] at h; cases h
    | true =>
      rw [backR_3 h1 h2] at h ⊢
      unfold backO
      rw [opR_t h1, opR_t h2, opR_t h]
/-- where a rising piece has a value between its ends lies between them -/
theorem back_unit {p q : Pt} {y : Rt} (hp : ptOk p = true) (hq : ptOk q = true) (h : ltR p.x q.x) (hr : ltR p.y q.y) (hy : goodRt y = true) (h1 : ¬ ltR y p.y) (h2 : ¬ ltR q.y y) (ho : (backR p (slR p q) y).2 = true) : unitRt (backR p (slR p q) y).1 = true := by
  obtain ⟨s1, s2, s3⟩ := slR_ok hp hq h
  have s4 := (sl_pos hp hq h).2 hr
  have s5 := (q_pos s2).1 s4
  rw [ptOk_iff] at hp hq
  have gx := coord_good hp.1
  have gy := coord_good hp.2
  have gX := coord_good hq.1
  have gY := coord_good hq.2
  cases e1 : (subRt y p.y).2 with
  | false => rw [backR_1 e1] at ho; cases ho
  | true =>
    cases e2 : (divRt (subRt y p.y).1 (slR p q)).2 with
    | false => rw [backR_2 e1 e2] at ho; cases ho
    | true =>
      rw [backR_3 e1 e2] at ho ⊢
      have g1 : goodRt (subRt y p.y).1 = true := lowRt_good1 e1
      have g2 : goodRt (divRt (subRt y p.y).1 (slR p q)).1 = true := lowRt_good1 e2
      have g3 : goodRt (addRt p.x (divRt (subRt y p.y).1 (slR p q)).1).1 = true := lowRt_good1 ho
      have d := q_div g1 s2 (by omega) e2
      rw [q_sub hy gy e1] at d
      rw [q_unit g3, q_add gx g2 ho]
      have l1 := (q_lt gx gX).1 h
      have l2 : qR p.y ≤ qR y := Rat.not_lt.1 fun hh => h1 ((q_lt hy gy).2 hh)
      have l3 : qR y ≤ qR q.y := Rat.not_lt.1 fun hh => h2 ((q_lt gY hy).2 hh)
      have u1 := (q_unit gx).1 (coord_unit hp.1)
      have u2 := (q_unit gX).1 (coord_unit hq.1)
      have n1 : 0 ≤ qR (divRt (subRt y p.y).1 (slR p q)).1 := by
        by_cases h6 : qR (divRt (subRt y p.y).1 (slR p q)).1 < 0
        · have := Rat.mul_pos (show 0 < -qR (divRt (subRt y p.y).1 (slR p q)).1 by grind) s5; grind
        · grind
      have n2 : qR (divRt (subRt y p.y).1 (slR p q)).1 ≤ qR q.x - qR p.x := by
        by_cases h6 : qR q.x - qR p.x < qR (divRt (subRt y p.y).1 (slR p q)).1
        · have := Rat.mul_pos (show 0 < qR (divRt (subRt y p.y).1 (slR p q)).1 - (qR q.x - qR p.x) by grind) s5; grind
        · grind
      constructor <;> grind
/-- where a change has a value -/
@[irreducible] noncomputable def chB (h : List Pt) (y : Rt) : Rt × Bool := backR (getA zP h (pcN (exR h) y)) (slR (getA zP h (pcN (exR h) y)) (getA zP h (pcN (exR h) y + 1))) y
@[irreducible] noncomputable def chO (h : List Pt) (y : Rt) : Rt := backO (getA zP h (pcN (exR h) y)) (slR (getA zP h (pcN (exR h) y)) (getA zP h (pcN (exR h) y + 1))) y
theorem chB_bad {h : List Pt} {y : Rt} (hb : (chB h y).2 = false) : chB h y = (⟨0, 0⟩, false) := by unfold chB at hb ⊢; exact backR_bad hb
theorem chO_t {h : List Pt} {y : Rt} (hb : (chB h y).2 = true) : chO h y = (chB h y).1 := by unfold chB at hb ⊢; unfold chO; exact backO_t hb
theorem ch_piece {h : List Pt} {y : Rt} (hc : chOk h = true) (hy : unitRt y = true) : pcN (exR h) y + 1 < h.length ∧ ¬ ltR y (getA zP h (pcN (exR h) y)).y ∧ ¬ ltR (getA zP h (pcN (exR h) y + 1)).y y := by
  obtain ⟨p1, p2, p3, p4⟩ := pc_spec (ex_map hc) hy
  rw [exR_length] at p1
  rw [exR_get (by omega)] at p2
  rw [exR_get (by omega)] at p3
  exact ⟨p1, p2, p3⟩
theorem chB_unit {h : List Pt} {y : Rt} (hc : chOk h = true) (hy : unitRt y = true) (hb : (chB h y).2 = true) : unitRt (chB h y).1 = true := by
  obtain ⟨p1, p2, p3⟩ := ch_piece hc hy
  obtain ⟨h1, h2, h3, h4⟩ := chOk_iff.1 hc
  obtain ⟨m1, m2, m3, m4, m5⟩ := mapOk_iff.1 h1
  unfold chB at hb ⊢
  exact back_unit (map_pt h1 (by omega)) (map_pt h1 (by omega)) (m5 _ p1) (h4 _ p1) (unit_good hy) p2 p3 hb
end Go.Vx
