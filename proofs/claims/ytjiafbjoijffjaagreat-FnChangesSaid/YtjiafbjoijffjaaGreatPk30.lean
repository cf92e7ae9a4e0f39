/- What is drawn for the laws of changes: places and values. -/
import Derived.Test.YtjiafbjoijffjaaGreatPk16
import Derived.Test.YtjiafbjoijffjaaGreatPk25
import Derived.Test.YtjiafbjoijffjaaGreatPk29
import Derived.Test.YtjiafbjoijffjaaGreatPk23
import Derived.Test.YtjiafbjoijffjaaGreatPk28
namespace Go.Vx
open Go
set_option maxRecDepth 100000
set_option linter.unusedSimpArgs false
set_option linter.unusedVariables false

theorem ex_twice (h : List Pt) : exR (exR h) = h := by
  unfold exR
  rw [List.map_map]
  exact List.map_id' h
theorem ex_ch {h : List Pt} (hc : chOk h = true) : chOk (exR h) = true := by
  obtain ⟨h1, h2, h3, h4⟩ := chOk_iff.1 hc
  obtain ⟨m1, m2, m3, m4, m5⟩ := mapOk_iff.1 h1
  refine chOk_iff.2 ⟨ex_map hc, ?_, ?_, fun i hi => ?_⟩
  · rw [exR_get (by omega)]; exact m3
  · rw [exR_length, exR_get (by omega)]; exact m4
  · rw [exR_length] at hi
    rw [exR_get (by omega), exR_get hi]; exact m5 i hi
/-- the value at the fraction that was found -/
theorem cb_val {h : List Pt} {y : Rt} (hb : (cbRes h y).2 = true) : mapOk h = true ∧ chOk h = true ∧ unitRt y = true ∧ unitRt (cbRes h y).1 = true ∧ ((vR h (cbRes h y).1).2 = true → (vR h (cbRes h y).1).1 = y) := by
  cases hc : chOk h with
  | false => rw [cb_f1 hc] at hb; cases hb
  | true =>
    cases hy : unitRt y with
    | false => rw [cb_f2 hy] at hb; cases hb
    | true =>
      rw [cb_t hc hy] at hb ⊢
      obtain ⟨h1, h2, h3, h4⟩ := chOk_iff.1 hc
      have hu := chB_unit hc hy hb
      refine ⟨h1, rfl, rfl, hu, fun ho => ?_⟩
      have gy := unit_good hy
      refine q_inj (vR_good h1 hu ho) gy ?_
      rw [vR_q h1 hu ho]
      obtain ⟨p1, p2, p3⟩ := ch_piece hc hy
      generalize hj : pcN (exR h) y = j at *
      have hp := map_pt h1 (i := j) (by omega)
      have hq := map_pt h1 p1
      have gp := ptOk_iff.1 hp
      have gq := ptOk_iff.1 hq
      obtain ⟨s1, s2, s3⟩ := slR_ok hp hq ((mapOk_iff.1 h1).2.2.2.2 j p1)
      have sp := (q_pos s2).1 ((sl_pos hp hq ((mapOk_iff.1 h1).2.2.2.2 j p1)).2 (h4 j p1))
      have e : (qR (chB h y).1 - qX h j) * qR (slR (getA zP h j) (getA zP h (j + 1))) = qR y - qY h j := by
        unfold chB at hb ⊢
        rw [hj] at hb ⊢
        refine backR_q (coord_good gp.1) (coord_good gp.2) s2 (fun h0 => ?_) gy hb
        have z : qR (slR (getA zP h j) (getA zP h (j + 1))) = 0 := by unfold qR; rw [h0]; show ((0 : Int) : Rat) / _ = 0; grind
        grind
      have l1 : qY h j ≤ qR y := Rat.not_lt.1 fun hh => p2 ((q_lt gy (coord_good gp.2)).2 hh)
      have l2 : qR y ≤ qY h (j + 1) := Rat.not_lt.1 fun hh => p3 ((q_lt (coord_good gq.2) gy).2 hh)
      have s3 : qR (slR (getA zP h j) (getA zP h (j + 1))) * (qX h (j + 1) - qX h j) = qY h (j + 1) - qY h j := s3
      generalize qR (slR (getA zP h j) (getA zP h (j + 1))) = s at *
      refine pv_eq (map_inc h1) ⟨j, p1, ?_, ?_, ?_⟩
      · have : 0 ≤ qR (chB h y).1 - qX h j := r_prod sp (by grind)
        grind
      · have : 0 ≤ qX h (j + 1) - qR (chB h y).1 := r_prod sp (by grind)
        grind
      · unfold OnP
        rw [← e, ← s3]; grind
theorem thL_get {a b : List Rt} {i : Nat} (hi : i < a.length) : getA zP (thL a b) (i + 1) = ⟨getA zR a i, getA zR b i⟩ := by
  unfold thL
  rw [getA_al _ _ _ _ (by rw [thR_length]; omega)]
  unfold thR
  show getA zP ((List.range a.length).map fun k => (⟨getA zR a k, getA zR b k⟩ : Pt)) i = _
  rw [getA_eq]; simp [List.getD, hi]
theorem thL_first (a b : List Rt) : getA zP (thL a b) 0 = ⟨⟨0, 1⟩, ⟨0, 1⟩⟩ := rfl
theorem thL_last (a b : List Rt) : getA zP (thL a b) (a.length + 1) = ⟨⟨1, 1⟩, ⟨1, 1⟩⟩ := by
  unfold thL
  have := getA_app_last zP (thR a b a.length) (⟨⟨1, 1⟩, ⟨1, 1⟩⟩ : Pt)
  rw [thR_length] at this
  exact this
theorem inn_lt {x : Rt} (h : inn1 x = true) : ltR ⟨0, 1⟩ x ∧ ltR x ⟨1, 1⟩ := by
  unfold inn1 at h
  simp only [Bool.and_eq_true, Bool.not_eq_true', beq_eq_false_iff_ne, ne_eq] at h
  obtain ⟨h1, h2, h3⟩ := h
  have := unitRt_iff.1 h1
  constructor
  · show 0 * x.den < x.num * 1; omega
  · show x.num * 1 < 1 * x.den; omega
theorem th_ch {a b : List Rt} (h1 : innB b = true) (h3 : a.length = b.length) (h4 : mapOk (thL a b) = true) : chOk (thL a b) = true := by
  have hl := thL_length a b
  unfold innB at h1
  rw [Bool.and_eq_true, List.all_eq_true] at h1
  have hr := risR_iff.1 h1.2
  have hb : ∀ i, i < a.length → inn1 (getA zR b i) = true := fun i hi => h1.1 _ (getA_mem _ (by omega))
  refine chOk_iff.2 ⟨h4, rfl, ?_, fun i hi => ?_⟩
  · rw [show (thL a b).length - 1 = a.length + 1 by omega, thL_last]
  · rw [hl] at hi
    by_cases hn : i < a.length
    · rw [thL_get hn]
      cases i with
      | zero => rw [thL_first]; exact (inn_lt (hb 0 hn)).1
      | succ k => rw [thL_get (by omega)]; exact hr k (by omega)
    · have e : i = a.length := by omega
      subst e
      rw [thL_last]
      cases hz : a.length with
      | zero => rw [thL_first]; decide
      | succ k => rw [thL_get (by omega)]; exact (inn_lt (hb k (by omega))).2
/-- a change through given places has the given values, and is a change -/
theorem th_val {a b : List Rt} (h : (thRes a b).2 = true) : innB a = true ∧ innB b = true ∧ a.length = b.length ∧ mapOk (thL a b) = true ∧ (thRes a b).1 = thL a b ∧ (∀ i, i < a.length → unitRt (getA zR a i) = true ∧ vR (thL a b) (getA zR a i) = (getA zR b i, true)) := by
  have hk : thOk a b = true := by
    cases hk : thOk a b with
    | true => rfl
    | false => unfold thRes at h; rw [hk] at h; cases h
  have hk2 := hk
  unfold thOk at hk2
  simp only [Bool.and_eq_true, decide_eq_true_eq] at hk2
  obtain ⟨h1, h2, h3, h4⟩ := hk2
  refine ⟨h1, h2, h3, h4, by unfold thRes; rw [hk], fun i hi => ⟨inn_unit h1 _ (getA_mem _ hi), ?_⟩⟩
  have hl := thL_length a b
  have := vR_knot h4 (i := i) (by omega)
  rw [thL_get hi] at this
  exact this
/-- **A conjugate map is conjugate.** -/
theorem cm_conj {f h : List Pt} (h1 : (cmRes f h).2 = true) (h2 : (cjRes f (cmRes f h).1 h).2 = true) : (cjRes f (cmRes f h).1 h).1 = true := by
  cases m1 : mapOk f with
  | false => rw [cmRes_f1 m1] at h1; cases h1
  | true =>
    cases m2 : chOk h with
    | false => rw [cmRes_f2 m2] at h1; cases h1
    | true =>
      rw [cmRes_t m1 m2] at h1 h2 ⊢
      cases hk : cmK f h (cmN f h) with
      | false => rw [cmR_f hk] at h1; cases h1
      | true =>
        rw [cmR_t hk] at h1 h2 ⊢
        cases hm : mapOk (smL (cmL f h (cmN f h))) with
        | false => rw [cmF_f hm] at h1; cases h1
        | true =>
          rw [cmF_t hm] at h2 ⊢
          dsimp only at h2 ⊢
          have key := cm_pv m1 m2 hk hm
          generalize smL (cmL f h (cmN f h)) = g at *
          have hh := (chOk_iff.1 m2).1
          cases t1 : tpsOk f g h with
          | false => rw [cjRes_f t1] at h2; cases h2
          | true =>
            rw [cjRes_t t1] at h2 ⊢
            cases t2 : tpG f g h with
            | false => rw [icR_f t2] at h2; cases h2
            | true =>
              rw [icR_t t2] at h2 ⊢
              cases t3 : icG f g h (tpO f g h) (tpO f g h).length with
              | false => rw [icsR_f t3] at h2; cases h2
              | true =>
                rw [icsR_t t3]
                show icL f g h (tpO f g h) (tpO f g h).length = true
                unfold icL
                refine List.all_eq_true.2 fun i hi => ?_
                have hi := List.mem_range.1 hi
                obtain ⟨o1, o2⟩ := icG_at t3 i hi
                have hx : unitRt (getA zR (tpO f g h) i) = true := tp_unit m1 hm m2 t2 (getA_mem _ hi)
                rw [twO_t o1, twO_t o2]
                refine decide_eq_true (q_inj ?_ ?_ ?_)
                · have q := o1; rw [twR_g, Bool.and_eq_true] at q
                  rw [twR_t q.1] at o1 ⊢
                  exact vR_good hh (vR_unit m1 hx q.1) o1
                · have q := o2; rw [twR_g, Bool.and_eq_true] at q
                  rw [twR_t q.1] at o2 ⊢
                  exact vR_good hm (vR_unit hh hx q.1) o2
                · rw [twR_q m1 hh hx o1, twR_q hh hm hx o2]
                  have u := (q_unit (unit_good hx)).1 hx
                  exact (key _ u.1 u.2).symm
end Go.Vx
namespace Go.Vx
open Go Go.Proofs
set_option maxRecDepth 100000
set_option linter.unusedSimpArgs false
set_option linter.unusedVariables false

theorem mod2_of {z : Int} (h : 0 ≤ z) : 0 ≤ z.tmod 2 ∧ z.tmod 2 ≤ 1 := by
  rw [Int.tmod_eq_emod_of_nonneg h]; omega
theorem sq_bd {k : Nat} (h : k ≤ 11) : (0 : Int) ≤ (k : Int) * (k : Int) ∧ (k : Int) * (k : Int) ≤ 121 := by
  have h1 := Nat.mul_le_mul h h
  have h2 : ((k * k : Nat) : Int) = (k : Int) * (k : Int) := Int.natCast_mul ..
  omega
theorem sq_bd2 {n : Int} (h0 : 0 ≤ n) (h : n ≤ 11) : (0 : Int) ≤ (n + 1) * (n + 1) ∧ (n + 1) * (n + 1) ≤ 144 := by
  obtain ⟨k, rfl⟩ : ∃ k : Nat, n = k := ⟨n.toNat, by omega⟩
  have h1 := Nat.mul_le_mul (show k + 1 ≤ 12 by omega) (show k + 1 ≤ 12 by omega)
  have h2 : (((k + 1) * (k + 1) : Nat) : Int) = ((k : Int) + 1) * ((k : Int) + 1) := by rw [Int.natCast_mul]; rfl
  omega

set_option maxHeartbeats 16000000 in
theorem ex_cur_change : ∃ (V : Cur → List Pt) (S : Cur → Cur), (∀ (c : Cur), AtOk 450 c → ((V c).length ≤ 62)) ∧ (∀ (c : Cur), Adv 450 c (S c)) ∧ GSpec Tryz.prog ⟨129, [.cell 93 .cur], [.list 107 .pt], fun ((c : Cur), _) => ⟨[AtOk 450 c], (V c, ()), (S c, ())⟩⟩ := by
  obtain ⟨V, S, h1, h2, h3⟩ := some_c (P := Tryz.prog) tab_ok fol (((((Known.nil.cons ok_cur_among (by kernel_rfl)).cons ok_cur_one (by kernel_rfl)).cons ok_spec_raMake (by kernel_rfl)).cons ok_spec_ChangeThrough (by kernel_rfl)).cons ok_cur_anyIm (by kernel_rfl)) (f := 129) (t := 93) (ks := []) (rs := [.list 107 .pt]) (by decide) Tryz.func129 450 (fun y => match y with | (_) => []) (fun y R => match y, R with | (_), ((v : List Pt), _) => v.length ≤ 62) (fun _ _ => rfl) (by
    rintro c ⟨⟩ hl hc hpre
    have hn := among_rng c (l := [0, 1, 1, 2]) 0 2 (by decide) (by decide)
    have hn2 := sq_bd2 hn.1 (by omega)
    repeat' (first | with_reducible apply andAll_cons | with_reducible apply andAll_nil | (with_reducible apply Cf.mk; kernel_rfl) | apply And.intro | intro _ | exact True.intro | apply Lf.mk)
    all_goals (try dsimp only at *)
    all_goals (try simp only [cur_eta, rt_eta_, List.length_cons, List.length_nil, Nat.zero_add, Nat.reduceAdd, Int.cast_ofNat_Int] at *)
    all_goals (try simp only [Bool.not_eq_true', Bool.not_eq_false', Bool.not_not, decide_eq_true_eq, decide_eq_false_iff_not, beq_iff_eq, bne_iff_ne, beq_eq_false_iff_ne, bne_eq_false_iff_eq, ne_eq, Bool.and_eq_true, Bool.and_eq_false_iff, Bool.or_eq_true, Bool.or_eq_false_iff, Int.toNat_natCast, Nat.zero_add, Int.ofNat_lt, Int.ofNat_le, List.length_cons, List.length_nil, List.drop_zero, List.take_length] at *)
    all_goals first | ((try simp only [anyS_r, ratS_r, uniS_r, ordS_r, pickS_r, nextS_r, imGridS_r, imdS_r, anyImS_r, xofS_r, ivofS_r, rstS_r, strmS_r]); (first | exact ⟨100000, rfl⟩ | exact rawIn_adv (by assumption) ⟨100000, rfl⟩)) | ((repeat (first | apply pick_at | apply any_at | apply uni_at | apply ord_at | apply rat_at | apply next_at | apply imGrid_at | apply imd_at | apply anyIm_at | apply xof_at | apply ivof_at | apply rst_at | apply strm_at)); exact AtOk.le (by assumption) (by first | decide | omega)) | omega | (show inI64 _; unfold inI64; omega) | (show 1 ≤ List.length _; simp; done) | (show _ * 32 ≤ 140737488355328; omega) | (show _ * 16 ≤ 140737488355328; omega) | with_reducible assumption | contradiction | exact unit_good_ (by assumption) | exact pk1 (by decide) (by decide) | exact pk2 (by decide) (by decide) | exact pk3 (by decide) (by decide) | exact pk4 (by decide) (by decide) | exact pk5 (by decide) (by decide) | skip
    all_goals (
      refine ⟨Cur × List Rt × List Rt × Nat, fun x => ⟨[(6, .sc (.num .i64 ((x.2.2.2 : Int) + 1))), (3, .sc (.own 7777777)), (4, .sc (.own 8888888))], [], [(7777777, .row 26 .rat x.2.1), (8888888, .row 26 .rat x.2.2.1), (100000, cuB x.1)]⟩, fun x => Adv (8 + 2 * x.2.2.2) c x.1 ∧ x.2.1.length = x.2.2.2 ∧ x.2.2.1.length = x.2.2.2 ∧ x.2.2.2 ≤ 10, fun x => 10 - x.2.2.2, ?_, ?_⟩
      · apply start_go (_, ([] : List Rt), ([] : List Rt), 0)
        case hf =>
          repeat' (first | apply And.intro | exact True.intro | exact Lf.mk (by with_reducible rfl) | apply Lf.mk | with_reducible exact Eq.refl _)
          all_goals first | rfl | trace_state
        case h =>
          dsimp only
          exact ⟨by ((repeat (first | apply adv_pick | apply adv_any | apply adv_uni | apply adv_ord | apply adv_rat | apply adv_next | apply adv_imGrid | apply adv_imd | apply adv_anyIm | apply adv_xof | apply adv_ivof | apply adv_rst | apply adv_strm)); (first | exact Adv.refl _ _ | exact Adv.le (by assumption) (by first | decide | omega))), rfl, rfl, by omega⟩
      · rintro ⟨d, a, b, k⟩ ⟨k1, k2, k3, k4⟩
        dsimp only at k1 k2 k3 k4
        have hd : AtOk 420 d := Adv.at_ k1 (hc.le (by omega))
        have hk := sq_bd (k := k + 1) (by omega)
        have ek : (((k + 1 : Nat) : Int)) = (k : Int) + 1 := rfl
        rw [ek] at hk
        repeat' (first | with_reducible apply andAll_cons | with_reducible apply andAll_nil | (with_reducible apply Cf.mk; kernel_rfl) | apply And.intro | intro _ | exact True.intro | apply Lf.mk)
        all_goals (try dsimp only at *)
        all_goals (try simp only [cur_eta, rt_eta_, List.length_cons, List.length_nil, Nat.zero_add, Nat.reduceAdd, Int.cast_ofNat_Int] at *)
        all_goals (try simp only [Bool.not_eq_true', Bool.not_eq_false', Bool.not_not, decide_eq_true_eq, decide_eq_false_iff_not, beq_iff_eq, bne_iff_ne, beq_eq_false_iff_ne, bne_eq_false_iff_eq, ne_eq, Bool.and_eq_true, Bool.and_eq_false_iff, Bool.or_eq_true, Bool.or_eq_false_iff, Int.toNat_natCast, Nat.zero_add, Int.ofNat_lt, Int.ofNat_le, List.length_cons, List.length_nil, List.drop_zero, List.take_length] at *)
        all_goals first | ((try simp only [anyS_r, ratS_r, uniS_r, ordS_r, pickS_r, nextS_r, imGridS_r, imdS_r, anyImS_r, xofS_r, ivofS_r, rstS_r, strmS_r]); (first | exact ⟨100000, rfl⟩ | exact rawIn_adv (by assumption) ⟨100000, rfl⟩)) | ((repeat (first | apply pick_at | apply any_at | apply uni_at | apply ord_at | apply rat_at | apply next_at | apply imGrid_at | apply imd_at | apply anyIm_at | apply xof_at | apply ivof_at | apply rst_at | apply strm_at)); exact AtOk.le (by assumption) (by first | decide | omega)) | omega | (show inI64 _; unfold inI64; omega) | (show 1 ≤ List.length _; simp; done) | (show _ * 32 ≤ 140737488355328; omega) | (show _ * 16 ≤ 140737488355328; omega) | with_reducible assumption | contradiction | exact unit_good_ (by assumption) | exact pk1 (by decide) (by decide) | exact pk2 (by decide) (by decide) | exact pk3 (by decide) (by decide) | exact pk4 (by decide) (by decide) | exact pk5 (by decide) (by decide) | skip
        all_goals first
          | (show inI64 _; unfold inI64; omega)
          | omega
          | (apply round_go (_, _, _, k + 1)
             · repeat' (first | apply And.intro | exact True.intro | exact Lf.mk (by with_reducible rfl) | apply Lf.mk | with_reducible exact Eq.refl _)
               all_goals first | rfl | (rw [Int.natCast_add]; rfl) | omega | skip
             · dsimp only; omega
             · dsimp only
               exact ⟨by first | exact k1.trans (pick_adv _ _) (by omega) | exact k1.le (by omega), by rw [List.length_append, k2]; rfl, by rw [List.length_append, k3]; rfl, by omega⟩)
          | (apply some_end (ks := [.cell 93 .cur]) (rs := [.list 107 .pt]) (_, ()) (_, ())
             · repeat' (first | apply And.intro | exact True.intro | exact Lf.mk (by with_reducible rfl) | apply Lf.mk | with_reducible exact Eq.refl _)
             · dsimp only
               refine ⟨?_, by ((repeat (first | apply adv_pick | apply adv_any | apply adv_uni | apply adv_ord | apply adv_rat | apply adv_next | apply adv_imGrid | apply adv_imd | apply adv_anyIm | apply adv_xof | apply adv_ivof | apply adv_rst | apply adv_strm)); (first | exact Adv.refl _ _ | exact Adv.le (by assumption) (by first | decide | omega)))⟩
               first | exact Nat.le_trans (th_len _ _) (by decide) | exact anyIm_ok (by ((repeat (first | apply pick_at | apply any_at | apply uni_at | apply ord_at | apply rat_at | apply next_at | apply imGrid_at | apply imd_at | apply anyIm_at | apply xof_at | apply ivof_at | apply rst_at | apply strm_at)); exact AtOk.le (by assumption) (by first | decide | omega))) | trace_state)
          | trace_state))
  exact ⟨fun c => (V c ()).1, fun c => S c (), fun c hA => h1 c () trivial hA trivial, fun c => h2 c (), h3⟩
@[irreducible] noncomputable def chadV : Cur → List Pt := Classical.choose ex_cur_change
@[irreducible] noncomputable def chadS : Cur → Cur := Classical.choose (Classical.choose_spec ex_cur_change)
theorem chad_spec : (∀ (c : Cur), AtOk 450 c → ((chadV c).length ≤ 62)) ∧ (∀ (c : Cur), Adv 450 c (chadS c)) ∧ GSpec Tryz.prog ⟨129, [.cell 93 .cur], [.list 107 .pt], fun ((c : Cur), _) => ⟨[AtOk 450 c], (chadV c, ()), (chadS c, ())⟩⟩ := by
  unfold chadV chadS
  exact (Classical.choose_spec (Classical.choose_spec ex_cur_change))
theorem chad_ok {c : Cur} (hA : AtOk 450 c) : (chadV c).length ≤ 62 := chad_spec.1 c hA
theorem chadS_r (c : Cur) : (chadS c).r = c.r := (chad_spec.2.1 c).r
theorem chad_at {m : Nat} {c : Cur} (h : AtOk (m + 450) c) : AtOk m (chadS c) := (chad_spec.2.1 c).at_ h
theorem adv_chad {k : Nat} {c d : Cur} (h : Adv k c d) : Adv (k + 450) c (chadS d) := h.trans (chad_spec.2.1 d) (Nat.le_refl _)
noncomputable def s_cur_change : Sig := ⟨129, [.cell 93 .cur], [.list 107 .pt], fun ((c : Cur), _) => ⟨[AtOk 450 c], (chadV c, ()), (chadS c, ())⟩⟩
theorem ok_cur_change : GSpec Tryz.prog s_cur_change := chad_spec.2.2
end Go.Vx
namespace Go.Vx
open Go Go.Proofs
set_option maxRecDepth 100000
set_option linter.unusedSimpArgs false
set_option linter.unusedVariables false

set_option maxHeartbeats 16000000 in
theorem ex_cur_orbiter : ∃ (V1 : Cur → List Pt) (V2 : Cur → Rt) (S : Cur → Cur), (∀ (c : Cur), AtOk 470 c → ((V1 c).length ≤ 62)) ∧ (∀ (c : Cur), Adv 470 c (S c)) ∧ GSpec Tryz.prog ⟨206, [.cell 93 .cur], [.list 107 .pt, .val .rat], fun ((c : Cur), _) => ⟨[AtOk 470 c], (V1 c, V2 c, ()), (S c, ())⟩⟩ := by
  obtain ⟨V, S, h1, h2, h3⟩ := some_c (P := Tryz.prog) tab_ok fol ((((((((Known.nil.cons ok_cur_anyIm (by kernel_rfl)).cons ok_cur_one (by kernel_rfl)).cons ok_cur_among (by kernel_rfl)).cons ok_spec_raMake (by kernel_rfl)).cons ok_cur_pick (by kernel_rfl)).cons ok_spec_raInt (by kernel_rfl)).cons ok_cur_gridRat (by kernel_rfl)).cons ok_cur_xOf (by kernel_rfl)) (f := 206) (t := 93) (ks := []) (rs := [.list 107 .pt, .val .rat]) (by decide) Tryz.func206 470 (fun y => match y with | (_) => []) (fun y R => match y, R with | (_), ((v1 : List Pt), (v2 : Rt), _) => v1.length ≤ 62) (fun _ _ => rfl) (by
    rintro c ⟨⟩ hl hc hpre
    have h1 := anyIm_ok (hc.le (by decide))
    have hn := among_rng (pickS (anyImS c) 2) (l := [2, 2, 3, 4]) 2 4 (by decide) (by decide)
    repeat' (first | with_reducible apply andAll_cons | with_reducible apply andAll_nil | (with_reducible apply Cf.mk; kernel_rfl) | apply And.intro | intro _ | exact True.intro | apply Lf.mk)
    all_goals (try dsimp only at *)
    all_goals (try simp only [cur_eta, rt_eta_, List.length_cons, List.length_nil, Nat.zero_add, Nat.reduceAdd, Int.cast_ofNat_Int] at *)
    all_goals (try simp only [Bool.not_eq_true', Bool.not_eq_false', Bool.not_not, decide_eq_true_eq, decide_eq_false_iff_not, beq_iff_eq, bne_iff_ne, beq_eq_false_iff_ne, bne_eq_false_iff_eq, ne_eq, Bool.and_eq_true, Bool.and_eq_false_iff, Bool.or_eq_true, Bool.or_eq_false_iff, Int.toNat_natCast, Nat.zero_add, Int.ofNat_lt, Int.ofNat_le, List.length_cons, List.length_nil, List.drop_zero, List.take_length] at *)
    all_goals first | ((try simp only [anyS_r, ratS_r, uniS_r, ordS_r, pickS_r, nextS_r, imGridS_r, imdS_r, anyImS_r, xofS_r, ivofS_r, rstS_r, strmS_r, chadS_r]); (first | exact ⟨100000, rfl⟩ | exact rawIn_adv (by assumption) ⟨100000, rfl⟩)) | ((repeat (first | apply pick_at | apply any_at | apply uni_at | apply ord_at | apply rat_at | apply next_at | apply imGrid_at | apply imd_at | apply anyIm_at | apply xof_at | apply ivof_at | apply rst_at | apply strm_at | apply chad_at)); exact AtOk.le (by assumption) (by first | decide | omega)) | omega | (show inI64 _; unfold inI64; omega) | (show 1 ≤ List.length _; simp; done) | (show _ * 32 ≤ 140737488355328; omega) | (show _ * 16 ≤ 140737488355328; omega) | with_reducible assumption | contradiction | exact unit_good_ (by assumption) | exact pk1 (by decide) (by decide) | exact pk2 (by decide) (by decide) | exact pk3 (by decide) (by decide) | exact pk4 (by decide) (by decide) | exact pk5 (by decide) (by decide) | skip
    all_goals first
      | (apply some_end (ks := [.cell 93 .cur]) (rs := [.list 107 .pt, .val .rat]) (_, _, ()) (_, ())
         · repeat' (first | apply And.intro | exact True.intro | exact Lf.mk (by with_reducible rfl) | apply Lf.mk | with_reducible exact Eq.refl _)
         · dsimp only
           refine ⟨?_, by ((repeat (first | apply adv_pick | apply adv_any | apply adv_uni | apply adv_ord | apply adv_rat | apply adv_next | apply adv_imGrid | apply adv_imd | apply adv_anyIm | apply adv_xof | apply adv_ivof | apply adv_rst | apply adv_strm | apply adv_chad)); (first | exact Adv.refl _ _ | exact Adv.le (by assumption) (by first | decide | omega)))⟩
           first | exact h1 | omega | trace_state)
      | skip
    generalize hnn : amongV (pickS (anyImS c) 2) [2, 2, 3, 4] = n at *
    refine ⟨Cur × List Pt × Nat, fun x => ⟨[(6, .sc (.num .i64 x.2.2)), (4, .sc (.own 7777777))], [3], [(7777777, .row 107 .pt x.2.1), (100000, cuB x.1)]⟩, fun x => Adv (404 + 2 * x.2.2) c x.1 ∧ x.2.1.length = x.2.2 ∧ x.2.2 ≤ 5, fun x => 5 - x.2.2, ?_, ?_⟩
    · apply start_go (_, ([] : List Pt), 0)
      case hf =>
        repeat' (first | apply And.intro | exact True.intro | exact Lf.mk (by with_reducible rfl) | apply Lf.mk | with_reducible exact Eq.refl _)
        all_goals first | rfl | trace_state
      case h =>
        dsimp only
        exact ⟨by ((repeat (first | apply adv_pick | apply adv_any | apply adv_uni | apply adv_ord | apply adv_rat | apply adv_next | apply adv_imGrid | apply adv_imd | apply adv_anyIm | apply adv_xof | apply adv_ivof | apply adv_rst | apply adv_strm | apply adv_chad)); (first | exact Adv.refl _ _ | exact Adv.le (by assumption) (by first | decide | omega))), rfl, by omega⟩
    · rintro ⟨d, f, i⟩ ⟨k1, k2, k3⟩
      dsimp only at k1 k2 k3
      have hd : AtOk 50 d := Adv.at_ k1 (hc.le (by omega))
      have hp := pickV_lt d (n := 8) (by omega)
      have hq : 0 ≤ (pickV d 8).tdiv 7 ∧ (pickV d 8).tdiv 7 ≤ 1 := by
        rw [Int.tdiv_eq_ediv_of_nonneg hp.1]; omega
      have hm := mod2_of (z := (i : Int) + (pickV d 8).tdiv 7) (by omega)
      have hmm := among_rng d (l := [3, 5, 7, 9, 11, 15, 31, 64]) 3 64 (by decide) (by decide)
      repeat' (first | with_reducible apply andAll_cons | with_reducible apply andAll_nil | (with_reducible apply Cf.mk; kernel_rfl) | apply And.intro | intro _ | exact True.intro | apply Lf.mk)
      all_goals (try dsimp only at *)
      all_goals (try simp only [cur_eta, rt_eta_, List.length_cons, List.length_nil, Nat.zero_add, Nat.reduceAdd, Int.cast_ofNat_Int] at *)
      all_goals (try simp only [Bool.not_eq_true', Bool.not_eq_false', Bool.not_not, decide_eq_true_eq, decide_eq_false_iff_not, beq_iff_eq, bne_iff_ne, beq_eq_false_iff_ne, bne_eq_false_iff_eq, ne_eq, Bool.and_eq_true, Bool.and_eq_false_iff, Bool.or_eq_true, Bool.or_eq_false_iff, Int.toNat_natCast, Nat.zero_add, Int.ofNat_lt, Int.ofNat_le, List.length_cons, List.length_nil, List.drop_zero, List.take_length] at *)
      all_goals first | ((try simp only [anyS_r, ratS_r, uniS_r, ordS_r, pickS_r, nextS_r, imGridS_r, imdS_r, anyImS_r, xofS_r, ivofS_r, rstS_r, strmS_r, chadS_r]); (first | exact ⟨100000, rfl⟩ | exact rawIn_adv (by assumption) ⟨100000, rfl⟩)) | ((repeat (first | apply pick_at | apply any_at | apply uni_at | apply ord_at | apply rat_at | apply next_at | apply imGrid_at | apply imd_at | apply anyIm_at | apply xof_at | apply ivof_at | apply rst_at | apply strm_at | apply chad_at)); exact AtOk.le (by assumption) (by first | decide | omega)) | omega | (show inI64 _; unfold inI64; omega) | (show 1 ≤ List.length _; simp; done) | (show _ * 32 ≤ 140737488355328; omega) | (show _ * 16 ≤ 140737488355328; omega) | with_reducible assumption | contradiction | exact unit_good_ (by assumption) | exact pk1 (by decide) (by decide) | exact pk2 (by decide) (by decide) | exact pk3 (by decide) (by decide) | exact pk4 (by decide) (by decide) | exact pk5 (by decide) (by decide) | skip
      all_goals first
        | (show inI64 _; unfold inI64; omega)
        | omega
        | (apply round_go (_, _, i + 1)
           · repeat' (first | apply And.intro | exact True.intro | exact Lf.mk (by with_reducible rfl) | apply Lf.mk | with_reducible exact Eq.refl _)
             all_goals first | rfl | (rw [Int.natCast_add]; rfl) | omega | skip
           · dsimp only; omega
           · dsimp only
             exact ⟨k1.trans (pick_adv _ _) (by omega), by rw [List.length_append, k2]; rfl, by omega⟩)
        | (apply some_end (ks := [.cell 93 .cur]) (rs := [.list 107 .pt, .val .rat]) (_, _, ()) (_, ())
           · repeat' (first | apply And.intro | exact True.intro | exact Lf.mk (by with_reducible rfl) | apply Lf.mk | with_reducible exact Eq.refl _)
           · dsimp only
             refine ⟨?_, by ((repeat (first | apply adv_pick | apply adv_any | apply adv_uni | apply adv_ord | apply adv_rat | apply adv_next | apply adv_imGrid | apply adv_imd | apply adv_anyIm | apply adv_xof | apply adv_ivof | apply adv_rst | apply adv_strm | apply adv_chad)); (first | exact Adv.refl _ _ | exact Adv.le (by assumption) (by first | decide | omega)))⟩
             omega)
        | trace_state)
  exact ⟨fun c => (V c ()).1, fun c => (V c ()).2.1, fun c => S c (), fun c hA => h1 c () trivial hA trivial, fun c => h2 c (), h3⟩
@[irreducible] noncomputable def orbtV1 : Cur → List Pt := Classical.choose ex_cur_orbiter
@[irreducible] noncomputable def orbtV2 : Cur → Rt := Classical.choose (Classical.choose_spec ex_cur_orbiter)
@[irreducible] noncomputable def orbtS : Cur → Cur := Classical.choose (Classical.choose_spec (Classical.choose_spec ex_cur_orbiter))
theorem orbt_spec : (∀ (c : Cur), AtOk 470 c → ((orbtV1 c).length ≤ 62)) ∧ (∀ (c : Cur), Adv 470 c (orbtS c)) ∧ GSpec Tryz.prog ⟨206, [.cell 93 .cur], [.list 107 .pt, .val .rat], fun ((c : Cur), _) => ⟨[AtOk 470 c], (orbtV1 c, orbtV2 c, ()), (orbtS c, ())⟩⟩ := by
  unfold orbtV1 orbtV2 orbtS
  exact (Classical.choose_spec (Classical.choose_spec (Classical.choose_spec ex_cur_orbiter)))
theorem orbt_ok {c : Cur} (hA : AtOk 470 c) : (orbtV1 c).length ≤ 62 := orbt_spec.1 c hA
theorem orbtS_r (c : Cur) : (orbtS c).r = c.r := (orbt_spec.2.1 c).r
theorem orbt_at {m : Nat} {c : Cur} (h : AtOk (m + 470) c) : AtOk m (orbtS c) := (orbt_spec.2.1 c).at_ h
theorem adv_orbt {k : Nat} {c d : Cur} (h : Adv k c d) : Adv (k + 470) c (orbtS d) := h.trans (orbt_spec.2.1 d) (Nat.le_refl _)
noncomputable def s_cur_orbiter : Sig := ⟨206, [.cell 93 .cur], [.list 107 .pt, .val .rat], fun ((c : Cur), _) => ⟨[AtOk 470 c], (orbtV1 c, orbtV2 c, ()), (orbtS c, ())⟩⟩
theorem ok_cur_orbiter : GSpec Tryz.prog s_cur_orbiter := orbt_spec.2.2
set_option maxHeartbeats 16000000 in
theorem ex_cur_conjugate : ∃ (V1 : Cur → List Pt) (V2 : Cur → Unit) (V3 : Cur → List Pt) (S : Cur → Cur), (∀ (c : Cur), AtOk 1750 c → ((V1 c).length ≤ 62 ∧ (V3 c).length ≤ 62)) ∧ (∀ (c : Cur), Adv 1750 c (S c)) ∧ GSpec Tryz.prog ⟨144, [.cell 93 .cur], [.list 107 .pt, .skip, .list 107 .pt], fun ((c : Cur), _) => ⟨[AtOk 1750 c], (V1 c, V2 c, V3 c, ()), (S c, ())⟩⟩ := by
  obtain ⟨V, S, h1, h2, h3⟩ := some_c (P := Tryz.prog) tab_ok fol ((((((((Known.nil.cons ok_cur_anyIm (by kernel_rfl)).cons ok_cur_change (by kernel_rfl)).cons ok_cur_one (by kernel_rfl)).cons ok_cur_orbiter (by kernel_rfl)).cons ok_spec_imGood (by kernel_rfl)).cons ok_spec_cjGood (by kernel_rfl)).cons ok_spec_cjMap (by kernel_rfl)).cons ok_spec_raInt (by kernel_rfl)) (f := 144) (t := 93) (ks := []) (rs := [.list 107 .pt, .skip, .list 107 .pt]) (by decide) Tryz.func144 1750 (fun y => match y with | (_) => []) (fun y R => match y, R with | (_), ((v1 : List Pt), (v2 : Unit), (v3 : List Pt), _) => v1.length ≤ 62 ∧ v3.length ≤ 62) (fun _ _ => rfl) (by
    rintro c ⟨⟩ hl hc hpre
    have h1 := anyIm_ok (hc.le (by decide))
    have h2 := chad_ok (c := anyImS c) (by ((repeat (first | apply pick_at | apply any_at | apply uni_at | apply ord_at | apply rat_at | apply next_at | apply imGrid_at | apply imd_at | apply anyIm_at | apply xof_at | apply ivof_at | apply rst_at | apply strm_at | apply chad_at | apply orbt_at)); exact AtOk.le (by assumption) (by first | decide | omega)))
    have h3 := orbt_ok (c := pickS (chadS (anyImS c)) 2) (by ((repeat (first | apply pick_at | apply any_at | apply uni_at | apply ord_at | apply rat_at | apply next_at | apply imGrid_at | apply imd_at | apply anyIm_at | apply xof_at | apply ivof_at | apply rst_at | apply strm_at | apply chad_at | apply orbt_at)); exact AtOk.le (by assumption) (by first | decide | omega)))
    repeat' (first | with_reducible apply andAll_cons | with_reducible apply andAll_nil | (with_reducible apply Cf.mk; kernel_rfl) | apply And.intro | intro _ | exact True.intro | apply Lf.mk)
    all_goals (try dsimp only at *)
    all_goals (try simp only [cur_eta, rt_eta_, List.length_cons, List.length_nil, Nat.zero_add, Nat.reduceAdd, Int.cast_ofNat_Int] at *)
    all_goals (try simp only [Bool.not_eq_true', Bool.not_eq_false', Bool.not_not, decide_eq_true_eq, decide_eq_false_iff_not, beq_iff_eq, bne_iff_ne, beq_eq_false_iff_ne, bne_eq_false_iff_eq, ne_eq, Bool.and_eq_true, Bool.and_eq_false_iff, Bool.or_eq_true, Bool.or_eq_false_iff, Int.toNat_natCast, Nat.zero_add, Int.ofNat_lt, Int.ofNat_le, List.length_cons, List.length_nil, List.drop_zero, List.take_length] at *)
    all_goals first | ((try simp only [anyS_r, ratS_r, uniS_r, ordS_r, pickS_r, nextS_r, imGridS_r, imdS_r, anyImS_r, xofS_r, ivofS_r, rstS_r, strmS_r, chadS_r, orbtS_r]); (first | exact ⟨100000, rfl⟩ | exact rawIn_adv (by assumption) ⟨100000, rfl⟩)) | ((repeat (first | apply pick_at | apply any_at | apply uni_at | apply ord_at | apply rat_at | apply next_at | apply imGrid_at | apply imd_at | apply anyIm_at | apply xof_at | apply ivof_at | apply rst_at | apply strm_at | apply chad_at | apply orbt_at)); exact AtOk.le (by assumption) (by first | decide | omega)) | omega | (show inI64 _; unfold inI64; omega) | (show 1 ≤ List.length _; simp; done) | (show _ * 32 ≤ 140737488355328; omega) | (show _ * 16 ≤ 140737488355328; omega) | with_reducible assumption | contradiction | exact unit_good_ (by assumption) | exact pk1 (by decide) (by decide) | exact pk2 (by decide) (by decide) | exact pk3 (by decide) (by decide) | exact pk4 (by decide) (by decide) | exact pk5 (by decide) (by decide) | skip
    all_goals first
      | assumption
      | (apply some_end (ks := [.cell 93 .cur]) (rs := [.list 107 .pt, .skip, .list 107 .pt]) (_, (), _, ()) (_, ())
         · repeat' (first | apply And.intro | exact True.intro | exact Lf.mk (by with_reducible rfl) | apply Lf.mk | with_reducible exact Eq.refl _)
         · dsimp only
           refine ⟨?_, by ((repeat (first | apply adv_pick | apply adv_any | apply adv_uni | apply adv_ord | apply adv_rat | apply adv_next | apply adv_imGrid | apply adv_imd | apply adv_anyIm | apply adv_xof | apply adv_ivof | apply adv_rst | apply adv_strm | apply adv_chad | apply adv_orbt)); (first | exact Adv.refl _ _ | exact Adv.le (by assumption) (by first | decide | omega)))⟩
           first | exact ⟨h1, h2⟩ | exact ⟨h3, h2⟩ | exact ⟨h1, by simp⟩ | exact ⟨h3, by simp⟩ | trace_state)
      | trace_state)
  exact ⟨fun c => (V c ()).1, fun c => (V c ()).2.1, fun c => (V c ()).2.2.1, fun c => S c (), fun c hA => h1 c () trivial hA trivial, fun c => h2 c (), h3⟩
@[irreducible] noncomputable def conjV1 : Cur → List Pt := Classical.choose ex_cur_conjugate
@[irreducible] noncomputable def conjV2 : Cur → Unit := Classical.choose (Classical.choose_spec ex_cur_conjugate)
@[irreducible] noncomputable def conjV3 : Cur → List Pt := Classical.choose (Classical.choose_spec (Classical.choose_spec ex_cur_conjugate))
@[irreducible] noncomputable def conjS : Cur → Cur := Classical.choose (Classical.choose_spec (Classical.choose_spec (Classical.choose_spec ex_cur_conjugate)))
theorem conj_spec : (∀ (c : Cur), AtOk 1750 c → ((conjV1 c).length ≤ 62 ∧ (conjV3 c).length ≤ 62)) ∧ (∀ (c : Cur), Adv 1750 c (conjS c)) ∧ GSpec Tryz.prog ⟨144, [.cell 93 .cur], [.list 107 .pt, .skip, .list 107 .pt], fun ((c : Cur), _) => ⟨[AtOk 1750 c], (conjV1 c, conjV2 c, conjV3 c, ()), (conjS c, ())⟩⟩ := by
  unfold conjV1 conjV2 conjV3 conjS
  exact (Classical.choose_spec (Classical.choose_spec (Classical.choose_spec (Classical.choose_spec ex_cur_conjugate))))
theorem conj_ok {c : Cur} (hA : AtOk 1750 c) : (conjV1 c).length ≤ 62 ∧ (conjV3 c).length ≤ 62 := conj_spec.1 c hA
theorem conjS_r (c : Cur) : (conjS c).r = c.r := (conj_spec.2.1 c).r
theorem conj_at {m : Nat} {c : Cur} (h : AtOk (m + 1750) c) : AtOk m (conjS c) := (conj_spec.2.1 c).at_ h
theorem adv_conj {k : Nat} {c d : Cur} (h : Adv k c d) : Adv (k + 1750) c (conjS d) := h.trans (conj_spec.2.1 d) (Nat.le_refl _)
noncomputable def s_cur_conjugate : Sig := ⟨144, [.cell 93 .cur], [.list 107 .pt, .skip, .list 107 .pt], fun ((c : Cur), _) => ⟨[AtOk 1750 c], (conjV1 c, conjV2 c, conjV3 c, ()), (conjS c, ())⟩⟩
theorem ok_cur_conjugate : GSpec Tryz.prog s_cur_conjugate := conj_spec.2.2
set_option maxHeartbeats 4000000 in
theorem ex_spec_DrawConjugateMap : ∃ (V1 : Raw → List Pt) (V2 : Raw → List Pt), (∀ (r : Raw), ((V1 r).length ≤ 62 ∧ (V2 r).length ≤ 62)) ∧ GSpec Tryz.prog ⟨60, [.val .raw], [.list 107 .pt, .list 107 .pt], fun ((r : Raw), _) => ⟨[], (V1 r, V2 r, ()), ()⟩⟩ := by
  obtain ⟨V, O, h1, h3⟩ := fn_some (P := Tryz.prog) tab_ok fol (Known.nil.cons ok_cur_conjugate (by kernel_rfl)) (f := 60) (ks := [.val .raw]) (rs := [.list 107 .pt, .list 107 .pt]) (by decide) Tryz.func60 (pre := fun y => match y with | ((r : Raw), _) => []) (Q := fun y R _ => match y, R with | ((r : Raw), _), ((v1 : List Pt), (v2 : List Pt), _) => v1.length ≤ 62 ∧ v2.length ≤ 62) (by
    rintro ⟨(r : Raw), ⟨⟩⟩ hl hpre
    have hz := cz_at r
    have h1 := conj_ok (hz.le (by decide))
    repeat' (first | with_reducible apply andAll_cons | with_reducible apply andAll_nil | (with_reducible apply Cf.mk; kernel_rfl) | apply And.intro | intro _ | exact True.intro | apply Lf.mk)
    all_goals (try dsimp only at *)
    all_goals (try simp only [cur_eta, rt_eta_, List.length_cons, List.length_nil, Nat.zero_add, Nat.reduceAdd, Int.cast_ofNat_Int] at *)
    all_goals (try simp only [Bool.not_eq_true', Bool.not_eq_false', Bool.not_not, decide_eq_true_eq, decide_eq_false_iff_not, beq_iff_eq, bne_iff_ne, beq_eq_false_iff_ne, bne_eq_false_iff_eq, ne_eq, Bool.and_eq_true, Bool.and_eq_false_iff, Bool.or_eq_true, Bool.or_eq_false_iff, Int.toNat_natCast, Nat.zero_add, Int.ofNat_lt, Int.ofNat_le, List.length_cons, List.length_nil, List.drop_zero, List.take_length] at *)
    all_goals first | ((try simp only [anyS_r, ratS_r, uniS_r, ordS_r, pickS_r, nextS_r, imGridS_r, imdS_r, anyImS_r, xofS_r, ivofS_r, rstS_r, strmS_r, chadS_r, orbtS_r, conjS_r]); (first | exact ⟨100000, rfl⟩ | exact rawIn_adv (by assumption) ⟨100000, rfl⟩)) | ((repeat (first | apply pick_at | apply any_at | apply uni_at | apply ord_at | apply rat_at | apply next_at | apply imGrid_at | apply imd_at | apply anyIm_at | apply xof_at | apply ivof_at | apply rst_at | apply strm_at | apply chad_at | apply orbt_at | apply conj_at)); exact AtOk.le (by assumption) (by first | decide | omega)) | omega | (show inI64 _; unfold inI64; omega) | (show 1 ≤ List.length _; simp; done) | (show _ * 32 ≤ 140737488355328; omega) | (show _ * 16 ≤ 140737488355328; omega) | with_reducible assumption | contradiction | exact unit_good_ (by assumption) | exact pk1 (by decide) (by decide) | exact pk2 (by decide) (by decide) | exact pk3 (by decide) (by decide) | exact pk4 (by decide) (by decide) | exact pk5 (by decide) (by decide) | skip
    all_goals (apply some_end (ks := [.val .raw]) (rs := [.list 107 .pt, .list 107 .pt]) (_, _, ()) (); (case h => ((repeat' (first | apply And.intro | exact True.intro | exact Lf.mk (by with_reducible rfl) | apply Lf.mk | with_reducible exact Eq.refl _)); all_goals (first | rfl | omega | skip))); (case q => ((try dsimp only); (first | exact trivial | omega | (rw [List.length_set]; omega) | (rw [List.length_take]; omega) | (simp only [List.length_cons, List.length_nil]; omega) | (simp; done) | skip)))))
  exact ⟨fun r => (V (r, ())).1, fun r => (V (r, ())).2.1, fun r => h1 (r, ()) trivial trivial, h3⟩
@[irreducible] noncomputable def dCjmV1 : Raw → List Pt := Classical.choose ex_spec_DrawConjugateMap
@[irreducible] noncomputable def dCjmV2 : Raw → List Pt := Classical.choose (Classical.choose_spec ex_spec_DrawConjugateMap)
theorem dCjm_spec : (∀ (r : Raw), ((dCjmV1 r).length ≤ 62 ∧ (dCjmV2 r).length ≤ 62)) ∧ GSpec Tryz.prog ⟨60, [.val .raw], [.list 107 .pt, .list 107 .pt], fun ((r : Raw), _) => ⟨[], (dCjmV1 r, dCjmV2 r, ()), ()⟩⟩ := by
  unfold dCjmV1 dCjmV2
  exact (Classical.choose_spec (Classical.choose_spec ex_spec_DrawConjugateMap))
theorem dCjm_ok {r : Raw} : (dCjmV1 r).length ≤ 62 ∧ (dCjmV2 r).length ≤ 62 := dCjm_spec.1 r
noncomputable def s_spec_DrawConjugateMap : Sig := ⟨60, [.val .raw], [.list 107 .pt, .list 107 .pt], fun ((r : Raw), _) => ⟨[], (dCjmV1 r, dCjmV2 r, ()), ()⟩⟩
theorem ok_spec_DrawConjugateMap : GSpec Tryz.prog s_spec_DrawConjugateMap := dCjm_spec.2
set_option maxHeartbeats 4000000 in
theorem ex_spec_DrawChangeBack : ∃ (V1 : Raw → List Pt) (V2 : Raw → Rt), (∀ (r : Raw), ((V1 r).length ≤ 62)) ∧ GSpec Tryz.prog ⟨52, [.val .raw], [.list 107 .pt, .val .rat], fun ((r : Raw), _) => ⟨[], (V1 r, V2 r, ()), ()⟩⟩ := by
  obtain ⟨V, O, h1, h3⟩ := fn_some (P := Tryz.prog) tab_ok fol ((Known.nil.cons ok_cur_change (by kernel_rfl)).cons ok_cur_xOf (by kernel_rfl)) (f := 52) (ks := [.val .raw]) (rs := [.list 107 .pt, .val .rat]) (by decide) Tryz.func52 (pre := fun y => match y with | ((r : Raw), _) => []) (Q := fun y R _ => match y, R with | ((r : Raw), _), ((v1 : List Pt), (v2 : Rt), _) => v1.length ≤ 62) (by
    rintro ⟨(r : Raw), ⟨⟩⟩ hl hpre
    have hz := cz_at r
    have h1 := chad_ok (hz.le (by decide))
    repeat' (first | with_reducible apply andAll_cons | with_reducible apply andAll_nil | (with_reducible apply Cf.mk; kernel_rfl) | apply And.intro | intro _ | exact True.intro | apply Lf.mk)
    all_goals (try dsimp only at *)
    all_goals (try simp only [cur_eta, rt_eta_, List.length_cons, List.length_nil, Nat.zero_add, Nat.reduceAdd, Int.cast_ofNat_Int] at *)
    all_goals (try simp only [Bool.not_eq_true', Bool.not_eq_false', Bool.not_not, decide_eq_true_eq, decide_eq_false_iff_not, beq_iff_eq, bne_iff_ne, beq_eq_false_iff_ne, bne_eq_false_iff_eq, ne_eq, Bool.and_eq_true, Bool.and_eq_false_iff, Bool.or_eq_true, Bool.or_eq_false_iff, Int.toNat_natCast, Nat.zero_add, Int.ofNat_lt, Int.ofNat_le, List.length_cons, List.length_nil, List.drop_zero, List.take_length] at *)
    all_goals first | ((try simp only [anyS_r, ratS_r, uniS_r, ordS_r, pickS_r, nextS_r, imGridS_r, imdS_r, anyImS_r, xofS_r, ivofS_r, rstS_r, strmS_r, chadS_r, orbtS_r, conjS_r]); (first | exact ⟨100000, rfl⟩ | exact rawIn_adv (by assumption) ⟨100000, rfl⟩)) | ((repeat (first | apply pick_at | apply any_at | apply uni_at | apply ord_at | apply rat_at | apply next_at | apply imGrid_at | apply imd_at | apply anyIm_at | apply xof_at | apply ivof_at | apply rst_at | apply strm_at | apply chad_at | apply orbt_at | apply conj_at)); exact AtOk.le (by assumption) (by first | decide | omega)) | omega | (show inI64 _; unfold inI64; omega) | (show 1 ≤ List.length _; simp; done) | (show _ * 32 ≤ 140737488355328; omega) | (show _ * 16 ≤ 140737488355328; omega) | with_reducible assumption | contradiction | exact unit_good_ (by assumption) | exact pk1 (by decide) (by decide) | exact pk2 (by decide) (by decide) | exact pk3 (by decide) (by decide) | exact pk4 (by decide) (by decide) | exact pk5 (by decide) (by decide) | skip
    all_goals (apply some_end (ks := [.val .raw]) (rs := [.list 107 .pt, .val .rat]) (_, _, ()) (); (case h => ((repeat' (first | apply And.intro | exact True.intro | exact Lf.mk (by with_reducible rfl) | apply Lf.mk | with_reducible exact Eq.refl _)); all_goals (first | rfl | omega | skip))); (case q => ((try dsimp only); (first | exact trivial | omega | (rw [List.length_set]; omega) | (rw [List.length_take]; omega) | (simp only [List.length_cons, List.length_nil]; omega) | (simp; done) | skip)))))
  exact ⟨fun r => (V (r, ())).1, fun r => (V (r, ())).2.1, fun r => h1 (r, ()) trivial trivial, h3⟩
@[irreducible] noncomputable def dChbV1 : Raw → List Pt := Classical.choose ex_spec_DrawChangeBack
@[irreducible] noncomputable def dChbV2 : Raw → Rt := Classical.choose (Classical.choose_spec ex_spec_DrawChangeBack)
theorem dChb_spec : (∀ (r : Raw), ((dChbV1 r).length ≤ 62)) ∧ GSpec Tryz.prog ⟨52, [.val .raw], [.list 107 .pt, .val .rat], fun ((r : Raw), _) => ⟨[], (dChbV1 r, dChbV2 r, ()), ()⟩⟩ := by
  unfold dChbV1 dChbV2
  exact (Classical.choose_spec (Classical.choose_spec ex_spec_DrawChangeBack))
theorem dChb_ok {r : Raw} : (dChbV1 r).length ≤ 62 := dChb_spec.1 r
noncomputable def s_spec_DrawChangeBack : Sig := ⟨52, [.val .raw], [.list 107 .pt, .val .rat], fun ((r : Raw), _) => ⟨[], (dChbV1 r, dChbV2 r, ()), ()⟩⟩
theorem ok_spec_DrawChangeBack : GSpec Tryz.prog s_spec_DrawChangeBack := dChb_spec.2
end Go.Vx
namespace Go.Vx
open Go Go.Proofs
set_option maxRecDepth 100000
set_option linter.unusedSimpArgs false
set_option linter.unusedVariables false

set_option maxHeartbeats 16000000 in
theorem ex_spec_DrawChangeThrough : ∃ (V1 : Raw → List Rt) (V2 : Raw → List Rt), (∀ (r : Raw), ((V1 r).length ≤ 62 ∧ (V2 r).length ≤ 62)) ∧ GSpec Tryz.prog ⟨57, [.val .raw], [.list 26 .rat, .list 26 .rat], fun ((r : Raw), _) => ⟨[], (V1 r, V2 r, ()), ()⟩⟩ := by
  obtain ⟨V, O, h1, h3⟩ := fn_some (P := Tryz.prog) tab_ok fol ((((((Known.nil.cons ok_cur_pick (by kernel_rfl)).cons ok_cur_one (by kernel_rfl)).cons ok_cur_gridRat (by kernel_rfl)).cons ok_cur_among (by kernel_rfl)).cons ok_spec_imPut (by kernel_rfl)).cons ok_cur_anyRat (by kernel_rfl)) (f := 57) (ks := [.val .raw]) (rs := [.list 26 .rat, .list 26 .rat]) (by decide) Tryz.func57 (pre := fun y => match y with | ((r : Raw), _) => []) (Q := fun y R _ => match y, R with | ((r : Raw), _), ((v1 : List Rt), (v2 : List Rt), _) => v1.length ≤ 62 ∧ v2.length ≤ 62) (by
    rintro ⟨(r : Raw), ⟨⟩⟩ hl hpre
    have hz := cz_at r
    repeat' (first | with_reducible apply andAll_cons | with_reducible apply andAll_nil | (with_reducible apply Cf.mk; kernel_rfl) | apply And.intro | intro _ | exact True.intro | apply Lf.mk)
    all_goals (try dsimp only at *)
    all_goals (try simp only [cur_eta, rt_eta_, List.length_cons, List.length_nil, Nat.zero_add, Nat.reduceAdd, Int.cast_ofNat_Int] at *)
    all_goals (try simp only [Bool.not_eq_true', Bool.not_eq_false', Bool.not_not, decide_eq_true_eq, decide_eq_false_iff_not, beq_iff_eq, bne_iff_ne, beq_eq_false_iff_ne, bne_eq_false_iff_eq, ne_eq, Bool.and_eq_true, Bool.and_eq_false_iff, Bool.or_eq_true, Bool.or_eq_false_iff, Int.toNat_natCast, Nat.zero_add, Int.ofNat_lt, Int.ofNat_le, List.length_cons, List.length_nil, List.drop_zero, List.take_length] at *)
    all_goals first | ((try simp only [anyS_r, ratS_r, uniS_r, ordS_r, pickS_r, nextS_r, imGridS_r, imdS_r, anyImS_r, xofS_r, ivofS_r, rstS_r, strmS_r, chadS_r, orbtS_r, conjS_r]); (first | exact ⟨100000, rfl⟩ | exact rawIn_adv (by assumption) ⟨100000, rfl⟩)) | ((repeat (first | apply pick_at | apply any_at | apply uni_at | apply ord_at | apply rat_at | apply next_at | apply imGrid_at | apply imd_at | apply anyIm_at | apply xof_at | apply ivof_at | apply rst_at | apply strm_at | apply chad_at | apply orbt_at | apply conj_at)); exact AtOk.le (by assumption) (by first | decide | omega)) | omega | (show inI64 _; unfold inI64; omega) | (show 1 ≤ List.length _; simp; done) | (show _ * 32 ≤ 140737488355328; omega) | (show _ * 16 ≤ 140737488355328; omega) | with_reducible assumption | contradiction | exact unit_good_ (by assumption) | exact pk1 (by decide) (by decide) | exact pk2 (by decide) (by decide) | exact pk3 (by decide) (by decide) | exact pk4 (by decide) (by decide) | exact pk5 (by decide) (by decide) | skip
    all_goals (
      refine ⟨Cur × List Rt × Nat, fun x => ⟨[(8, .sc (.num .i64 x.2.2)), (5, .sc (.own 7777777))], [], [(7777777, .row 26 .rat x.2.1), (14, cuB x.1)]⟩, fun x => Adv (10 + 4 * x.2.2) ⟨r, 0, 0⟩ x.1 ∧ Gd x.2.1 ∧ x.2.1.length ≤ x.2.2 ∧ x.2.2 ≤ 60, fun x => 60 - x.2.2, ?_, ?_⟩
      · apply start_go (_, ([] : List Rt), 0)
        case hf =>
          repeat' (first | apply And.intro | exact True.intro | exact Lf.mk (by with_reducible rfl) | apply Lf.mk | with_reducible exact Eq.refl _)
          all_goals first | rfl | trace_state
        case h =>
          dsimp only
          exact ⟨by ((repeat (first | apply adv_pick | apply adv_any | apply adv_uni | apply adv_ord | apply adv_rat | apply adv_next | apply adv_imGrid | apply adv_imd | apply adv_anyIm | apply adv_xof | apply adv_ivof | apply adv_rst | apply adv_strm | apply adv_chad | apply adv_orbt | apply adv_conj)); (first | exact Adv.refl _ _ | exact Adv.le (by assumption) (by first | decide | omega))), Gd.nil, Nat.le_refl _, by omega⟩
      · rintro ⟨d, a, t⟩ ⟨k1, k2, k3, k4⟩
        dsimp only at k1 k2 k3 k4
        have hd : AtOk 90000 d := Adv.at_ k1 (hz.le (by omega))
        have hmm := among_rng d (l := [5, 8, 40, 100]) 5 100 (by decide) (by decide)
        have hgg := fun n h1 h2 => griV_good (c := pickS d 4) (n := n) h1 h2
        have hl := fun x => putL_len x a
        repeat' (first | with_reducible apply andAll_cons | with_reducible apply andAll_nil | (with_reducible apply Cf.mk; kernel_rfl) | apply And.intro | intro _ | exact True.intro | apply Lf.mk)
        all_goals (try dsimp only at *)
        all_goals (try simp only [cur_eta, rt_eta_, List.length_cons, List.length_nil, Nat.zero_add, Nat.reduceAdd, Int.cast_ofNat_Int] at *)
        all_goals (try simp only [Bool.not_eq_true', Bool.not_eq_false', Bool.not_not, decide_eq_true_eq, decide_eq_false_iff_not, beq_iff_eq, bne_iff_ne, beq_eq_false_iff_ne, bne_eq_false_iff_eq, ne_eq, Bool.and_eq_true, Bool.and_eq_false_iff, Bool.or_eq_true, Bool.or_eq_false_iff, Int.toNat_natCast, Nat.zero_add, Int.ofNat_lt, Int.ofNat_le, List.length_cons, List.length_nil, List.drop_zero, List.take_length] at *)
        all_goals first | ((try simp only [anyS_r, ratS_r, uniS_r, ordS_r, pickS_r, nextS_r, imGridS_r, imdS_r, anyImS_r, xofS_r, ivofS_r, rstS_r, strmS_r, chadS_r, orbtS_r, conjS_r]); (first | exact ⟨100000, rfl⟩ | exact rawIn_adv (by assumption) ⟨100000, rfl⟩)) | ((repeat (first | apply pick_at | apply any_at | apply uni_at | apply ord_at | apply rat_at | apply next_at | apply imGrid_at | apply imd_at | apply anyIm_at | apply xof_at | apply ivof_at | apply rst_at | apply strm_at | apply chad_at | apply orbt_at | apply conj_at)); exact AtOk.le (by assumption) (by first | decide | omega)) | omega | (show inI64 _; unfold inI64; omega) | (show 1 ≤ List.length _; simp; done) | (show _ * 32 ≤ 140737488355328; omega) | (show _ * 16 ≤ 140737488355328; omega) | with_reducible assumption | contradiction | exact unit_good_ (by assumption) | exact pk1 (by decide) (by decide) | exact pk2 (by decide) (by decide) | exact pk3 (by decide) (by decide) | exact pk4 (by decide) (by decide) | exact pk5 (by decide) (by decide) | skip
        all_goals first
          | ((with_reducible show goodRt _ = true); first | exact k2 _ (by assumption) | exact hgg _ (by omega) (by omega))
          | omega
          | (apply round_go (_, _, t + 1)
             · repeat' (first | apply And.intro | exact True.intro | exact Lf.mk (by with_reducible rfl) | apply Lf.mk | with_reducible exact Eq.refl _)
               all_goals first | rfl | (rw [Int.natCast_add]; rfl) | omega | skip
             · dsimp only; omega
             · dsimp only
               exact ⟨(k1.trans (pick_adv _ _) (k := 12 + 4 * t) (by omega)).trans (pick_adv _ _) (by omega), by first | exact k2 | exact putL_good k2 (hgg _ (by omega) (by omega)), by first | omega | exact Nat.le_trans (hl _) (by omega), by omega⟩)
          | (refine ⟨Cur × List Rt × Nat, fun x => ⟨[(10, .sc (.num .i64 x.2.2)), (6, .sc (.own 8888888))], [7777777], [(8888888, .row 26 .rat x.2.1), (14, cuB x.1)]⟩, fun x => Adv (260 + 4 * x.2.2) ⟨r, 0, 0⟩ x.1 ∧ Gd x.2.1 ∧ x.2.1.length ≤ x.2.2 ∧ x.2.2 ≤ 60, fun x => 60 - x.2.2, ?_, ?_⟩
             · apply start_go (_, ([] : List Rt), 0)
               case hf =>
                 repeat' (first | apply And.intro | exact True.intro | exact Lf.mk (by with_reducible rfl) | apply Lf.mk | with_reducible exact Eq.refl _)
                 all_goals first | rfl | trace_state
               case h =>
                 dsimp only
                 exact ⟨by ((repeat (first | apply adv_pick | apply adv_any | apply adv_uni | apply adv_ord | apply adv_rat | apply adv_next | apply adv_imGrid | apply adv_imd | apply adv_anyIm | apply adv_xof | apply adv_ivof | apply adv_rst | apply adv_strm | apply adv_chad | apply adv_orbt | apply adv_conj)); (first | exact Adv.refl _ _ | exact Adv.le (by assumption) (by first | decide | omega))), Gd.nil, Nat.le_refl _, by omega⟩
             · rintro ⟨e, b, u⟩ ⟨j1, j2, j3, j4⟩
               dsimp only at j1 j2 j3 j4
               have he : AtOk 80000 e := Adv.at_ j1 (hz.le (by omega))
               have hmm2 := among_rng e (l := [5, 8, 40, 100]) 5 100 (by decide) (by decide)
               have hgg2 := fun n h1 h2 => griV_good (c := pickS e 4) (n := n) h1 h2
               have hl2 := fun x => putL_len x b
               repeat' (first | with_reducible apply andAll_cons | with_reducible apply andAll_nil | (with_reducible apply Cf.mk; kernel_rfl) | apply And.intro | intro _ | exact True.intro | apply Lf.mk)
               all_goals (try dsimp only at *)
               all_goals (try simp only [cur_eta, rt_eta_, List.length_cons, List.length_nil, Nat.zero_add, Nat.reduceAdd, Int.cast_ofNat_Int] at *)
               all_goals (try simp only [Bool.not_eq_true', Bool.not_eq_false', Bool.not_not, decide_eq_true_eq, decide_eq_false_iff_not, beq_iff_eq, bne_iff_ne, beq_eq_false_iff_ne, bne_eq_false_iff_eq, ne_eq, Bool.and_eq_true, Bool.and_eq_false_iff, Bool.or_eq_true, Bool.or_eq_false_iff, Int.toNat_natCast, Nat.zero_add, Int.ofNat_lt, Int.ofNat_le, List.length_cons, List.length_nil, List.drop_zero, List.take_length] at *)
               all_goals first | ((try simp only [anyS_r, ratS_r, uniS_r, ordS_r, pickS_r, nextS_r, imGridS_r, imdS_r, anyImS_r, xofS_r, ivofS_r, rstS_r, strmS_r, chadS_r, orbtS_r, conjS_r]); (first | exact ⟨100000, rfl⟩ | exact rawIn_adv (by assumption) ⟨100000, rfl⟩)) | ((repeat (first | apply pick_at | apply any_at | apply uni_at | apply ord_at | apply rat_at | apply next_at | apply imGrid_at | apply imd_at | apply anyIm_at | apply xof_at | apply ivof_at | apply rst_at | apply strm_at | apply chad_at | apply orbt_at | apply conj_at)); exact AtOk.le (by assumption) (by first | decide | omega)) | omega | (show inI64 _; unfold inI64; omega) | (show 1 ≤ List.length _; simp; done) | (show _ * 32 ≤ 140737488355328; omega) | (show _ * 16 ≤ 140737488355328; omega) | with_reducible assumption | contradiction | exact unit_good_ (by assumption) | exact pk1 (by decide) (by decide) | exact pk2 (by decide) (by decide) | exact pk3 (by decide) (by decide) | exact pk4 (by decide) (by decide) | exact pk5 (by decide) (by decide) | skip
               all_goals first
                 | ((with_reducible show goodRt _ = true); first | exact j2 _ (by assumption) | exact hgg2 _ (by omega) (by omega))
                 | omega
                 | (apply round_go (_, _, u + 1)
                    · repeat' (first | apply And.intro | exact True.intro | exact Lf.mk (by with_reducible rfl) | apply Lf.mk | with_reducible exact Eq.refl _)
                      all_goals first | rfl | (rw [Int.natCast_add]; rfl) | omega | skip
                    · dsimp only; omega
                    · dsimp only
                      exact ⟨(j1.trans (pick_adv _ _) (k := 262 + 4 * u) (by omega)).trans (pick_adv _ _) (by omega), by first | exact j2 | exact putL_good j2 (hgg2 _ (by omega) (by omega)), by first | omega | exact Nat.le_trans (hl2 _) (by omega), by omega⟩)
                 | (apply some_end (ks := [.val .raw]) (rs := [.list 26 .rat, .list 26 .rat]) (_, _, ()) ()
                    · repeat' (first | apply And.intro | exact True.intro | exact Lf.mk (by with_reducible rfl) | apply Lf.mk | with_reducible exact Eq.refl _)
                    · dsimp only
                      first | exact ⟨by omega, by omega⟩ | exact ⟨by rw [List.length_set]; omega, by omega⟩)
                 | trace_state)
          | trace_state))
  exact ⟨fun r => (V (r, ())).1, fun r => (V (r, ())).2.1, fun r => h1 (r, ()) trivial trivial, h3⟩
@[irreducible] noncomputable def dCthV1 : Raw → List Rt := Classical.choose ex_spec_DrawChangeThrough
@[irreducible] noncomputable def dCthV2 : Raw → List Rt := Classical.choose (Classical.choose_spec ex_spec_DrawChangeThrough)
theorem dCth_spec : (∀ (r : Raw), ((dCthV1 r).length ≤ 62 ∧ (dCthV2 r).length ≤ 62)) ∧ GSpec Tryz.prog ⟨57, [.val .raw], [.list 26 .rat, .list 26 .rat], fun ((r : Raw), _) => ⟨[], (dCthV1 r, dCthV2 r, ()), ()⟩⟩ := by
  unfold dCthV1 dCthV2
  exact (Classical.choose_spec (Classical.choose_spec ex_spec_DrawChangeThrough))
theorem dCth_ok {r : Raw} : (dCthV1 r).length ≤ 62 ∧ (dCthV2 r).length ≤ 62 := dCth_spec.1 r
noncomputable def s_spec_DrawChangeThrough : Sig := ⟨57, [.val .raw], [.list 26 .rat, .list 26 .rat], fun ((r : Raw), _) => ⟨[], (dCthV1 r, dCthV2 r, ()), ()⟩⟩
theorem ok_spec_DrawChangeThrough : GSpec Tryz.prog s_spec_DrawChangeThrough := dCth_spec.2
end Go.Vx
