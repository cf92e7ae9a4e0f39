/- What is drawn: lifts. -/
import Derived.Test.YtalgocopemmelaaGreatDoorVxXb
namespace Go.Vx
open Go Go.Proofs
set_option maxRecDepth 100000
set_option linter.unusedSimpArgs false
set_option linter.unusedVariables false

theorem GY.get {f : List Pt} (h : GY f) {i : Nat} (hi : i < f.length) : goodRt (getA zP f i).y = true := h _ (getA_mem _ hi)
theorem GY.two {a b x y : Rt} (hx : goodRt x = true) (hy : goodRt y = true) : GY [⟨a, x⟩, ⟨b, y⟩] := by
  intro p hp
  simp only [List.mem_cons, List.not_mem_nil, or_false] at hp
  rcases hp with rfl | rfl
  · exact hx
  · exact hy

set_option maxHeartbeats 4000000 in
theorem ex_cur_lift : ∃ (V : Cur → List Pt) (S : Cur → Cur), (∀ (c : Cur), AtOk 320 c → (2 ≤ (V c).length ∧ (V c).length ≤ 62 ∧ GY (V c))) ∧ (∀ (c : Cur), Adv 320 c (S c)) ∧ GSpec Tryz.prog ⟨81, [.cell 56 .cur], [.lift 76 .pt], fun ((c : Cur), _) => ⟨[AtOk 320 c], (V c, ()), (S c, ())⟩⟩ := by
  obtain ⟨V, S, h1, h2, h3⟩ := some_c (P := Tryz.prog) tab_ok fol (((((((Known.nil.cons ok_cur_among (by kernel_rfl)).cons ok_cur_liftGrid (by kernel_rfl)).cons ok_cur_one (by kernel_rfl)).cons ok_cur_gridRat (by kernel_rfl)).cons ok_spec_raInt (by kernel_rfl)).cons ok_spec_liPlus (by kernel_rfl)).cons ok_spec_liGood (by kernel_rfl)) (f := 81) (t := 56) (ks := []) (rs := [.lift 76 .pt]) (by decide) Tryz.func81 320 (fun y => match y with | (_) => []) (fun y R => match y, R with | (_), ((v : List Pt), _) => 2 ≤ v.length ∧ v.length ≤ 62 ∧ GY v) (fun _ _ => rfl) (by
    rintro c ⟨⟩ hl hc hpre
    have hn := among_rng c (l := [1, 2, 3, 4, 5, 6, 8, 12, 100]) 1 100 (by decide) (by decide)
    have hA : AtOk 300 (pickS c 9) := pick_at (hc.le (by decide))
    have hg := lgrid_ok (n := amongV c [1, 2, 3, 4, 5, 6, 8, 12, 100]) hA hn.1 hn.2
    have hk : ∀ d : Cur, 2 ≤ amongV d [2, 3, 5, 8, 13] ∧ amongV d [2, 3, 5, 8, 13] ≤ 13 := fun d => among_rng d 2 13 (by decide) (by decide)
    have hf : ∀ d e : Cur, Fst (griV d (amongV e [2, 3, 5, 8, 13])) := fun d e => fst_gri (by have := hk e; omega) (by have := hk e; omega)
    repeat' (first | with_reducible apply andAll_cons | with_reducible apply andAll_nil | (with_reducible apply Cf.mk; kernel_rfl) | apply And.intro | intro _ | exact True.intro | apply Lf.mk)
    all_goals (try dsimp only at *)
    all_goals (try simp only [cur_eta, rt_eta_, List.length_cons, List.length_nil, Nat.zero_add, Nat.reduceAdd, Int.cast_ofNat_Int] at *)
    all_goals (try simp only [Bool.not_eq_true', Bool.not_eq_false', Bool.not_not, decide_eq_true_eq, decide_eq_false_iff_not, beq_iff_eq, bne_iff_ne, beq_eq_false_iff_ne, bne_eq_false_iff_eq, ne_eq, Bool.and_eq_true, Bool.and_eq_false_iff, Bool.or_eq_true, Bool.or_eq_false_iff, Int.toNat_natCast, Nat.zero_add, Int.ofNat_lt, Int.ofNat_le, List.length_cons, List.length_nil, List.drop_zero, List.take_length] at *)
    all_goals first | ((try simp only [anyS_r, ratS_r, uniS_r, ordS_r, pickS_r, nextS_r, famzS_r, stairS_r, lgridS_r]); (first | exact ⟨100000, rfl⟩ | exact rawIn_adv (by assumption) ⟨100000, rfl⟩)) | ((repeat (first | apply pick_at | apply any_at | apply uni_at | apply ord_at | apply rat_at | apply next_at | apply famz_at | apply stair_at | apply lgrid_at)); exact AtOk.le (by assumption) (by first | decide | omega)) | omega | (show inI64 _; unfold inI64; omega) | (show 1 ≤ List.length _; simp; done) | (show _ * 32 ≤ 140737488355328; omega) | (show _ * 16 ≤ 140737488355328; omega) | with_reducible assumption | contradiction | exact unit_good_ (by assumption) | exact pk1 (by decide) (by decide) | exact pk2 (by decide) (by decide) | exact pk3 (by decide) (by decide) | exact pk4 (by decide) (by decide) | exact pk5 (by decide) (by decide) | skip
    all_goals first
      | exact (hf _ _).1 | exact Int.le_trans (by decide) (hk _).1 | exact Int.le_trans (hk _).2 (by decide)
      | (apply some_end (ks := [.cell 56 .cur]) (rs := [.lift 76 .pt]) (_, ()) (_, ())
         case h =>
           repeat' (first | apply And.intro | exact True.intro | exact Lf.mk (by with_reducible rfl) | apply Lf.mk | with_reducible exact Eq.refl _)
           all_goals first | rfl | fail
         case q =>
           dsimp only
           exact ⟨hg, by ((repeat (first | apply adv_pick | apply adv_any | apply adv_uni | apply adv_ord | apply adv_rat | apply adv_next | apply adv_famz | apply adv_stair | apply adv_lgrid)); (first | exact Adv.refl _ _ | exact Adv.le (by assumption) (by first | decide | omega)))⟩)
      | (apply some_end (ks := [.cell 56 .cur]) (rs := [.lift 76 .pt]) (_, ()) (_, ())
         case h =>
           repeat' (first | apply And.intro | exact True.intro | exact Lf.mk (by with_reducible rfl) | apply Lf.mk | with_reducible exact Eq.refl _)
           all_goals first | rfl | fail
         case q =>
           dsimp only
           exact ⟨⟨by simp, by simp, GY.two (hf _ _).1 (hf _ _).one⟩, by ((repeat (first | apply adv_pick | apply adv_any | apply adv_uni | apply adv_ord | apply adv_rat | apply adv_next | apply adv_famz | apply adv_stair | apply adv_lgrid)); (first | exact Adv.refl _ _ | exact Adv.le (by assumption) (by first | decide | omega)))⟩)
      | trace_state)
  exact ⟨fun c => (V c ()).1, fun c => S c (), fun c hA => h1 c () trivial hA trivial, fun c => h2 c (), h3⟩
@[irreducible] noncomputable def lftV : Cur → List Pt := Classical.choose ex_cur_lift
@[irreducible] noncomputable def lftS : Cur → Cur := Classical.choose (Classical.choose_spec ex_cur_lift)
theorem lft_spec : (∀ (c : Cur), AtOk 320 c → (2 ≤ (lftV c).length ∧ (lftV c).length ≤ 62 ∧ GY (lftV c))) ∧ (∀ (c : Cur), Adv 320 c (lftS c)) ∧ GSpec Tryz.prog ⟨81, [.cell 56 .cur], [.lift 76 .pt], fun ((c : Cur), _) => ⟨[AtOk 320 c], (lftV c, ()), (lftS c, ())⟩⟩ := by
  unfold lftV lftS
  exact (Classical.choose_spec (Classical.choose_spec ex_cur_lift))
theorem lft_ok {c : Cur} (hA : AtOk 320 c) : 2 ≤ (lftV c).length ∧ (lftV c).length ≤ 62 ∧ GY (lftV c) := lft_spec.1 c hA
theorem lftS_r (c : Cur) : (lftS c).r = c.r := (lft_spec.2.1 c).r
theorem lft_at {m : Nat} {c : Cur} (h : AtOk (m + 320) c) : AtOk m (lftS c) := (lft_spec.2.1 c).at_ h
theorem adv_lft {k : Nat} {c d : Cur} (h : Adv k c d) : Adv (k + 320) c (lftS d) := h.trans (lft_spec.2.1 d) (Nat.le_refl _)
noncomputable def s_cur_lift : Sig := ⟨81, [.cell 56 .cur], [.lift 76 .pt], fun ((c : Cur), _) => ⟨[AtOk 320 c], (lftV c, ()), (lftS c, ())⟩⟩
theorem ok_cur_lift : GSpec Tryz.prog s_cur_lift := lft_spec.2.2

set_option maxHeartbeats 4000000 in
theorem ex_cur_anyLift : ∃ (V : Cur → List Pt) (S : Cur → Cur), (∀ (c : Cur), AtOk 400 c → ((V c).length ≤ 62)) ∧ (∀ (c : Cur), Adv 400 c (S c)) ∧ GSpec Tryz.prog ⟨62, [.cell 56 .cur], [.lift 76 .pt], fun ((c : Cur), _) => ⟨[AtOk 400 c], (V c, ()), (S c, ())⟩⟩ := by
  obtain ⟨V, S, h1, h2, h3⟩ := some_c (P := Tryz.prog) tab_ok fol ((((((Known.nil.cons ok_cur_lift (by kernel_rfl)).cons ok_cur_pick (by kernel_rfl)).cons ok_cur_anyRat (by kernel_rfl)).cons ok_cur_among (by kernel_rfl)).cons ok_spec_liPlus (by kernel_rfl)).cons ok_spec_raMake (by kernel_rfl)) (f := 62) (t := 56) (ks := []) (rs := [.lift 76 .pt]) (by decide) Tryz.func62 400 (fun y => match y with | (_) => []) (fun y R => match y, R with | (_), ((v : List Pt), _) => v.length ≤ 62) (fun _ _ => rfl) (by
    rintro c ⟨⟩ hl hc hpre
    have hg := lft_ok (hc.le (by decide))
    have hp := pickV_lt (lftS c) (n := ((lftV c).length : Int)) (by omega)
    have hy := hg.2.2.get (i := (pickV (lftS c) (lftV c).length).toNat) (by omega)
    have hk : ∀ d : Cur, -6 ≤ amongV d [1, 6, -6] ∧ amongV d [1, 6, -6] ≤ 6 := fun d => among_rng d (-6) 6 (by decide) (by decide)
    repeat' (first | with_reducible apply andAll_cons | with_reducible apply andAll_nil | (with_reducible apply Cf.mk; kernel_rfl) | apply And.intro | intro _ | exact True.intro | apply Lf.mk)
    all_goals (try dsimp only at *)
    all_goals (try simp only [cur_eta, rt_eta_, List.length_cons, List.length_nil, Nat.zero_add, Nat.reduceAdd, Int.cast_ofNat_Int] at *)
    all_goals (try simp only [Bool.not_eq_true', Bool.not_eq_false', Bool.not_not, decide_eq_true_eq, decide_eq_false_iff_not, beq_iff_eq, bne_iff_ne, beq_eq_false_iff_ne, bne_eq_false_iff_eq, ne_eq, Bool.and_eq_true, Bool.and_eq_false_iff, Bool.or_eq_true, Bool.or_eq_false_iff, Int.toNat_natCast, Nat.zero_add, Int.ofNat_lt, Int.ofNat_le, List.length_cons, List.length_nil, List.drop_zero, List.take_length] at *)
    all_goals first | ((try simp only [anyS_r, ratS_r, uniS_r, ordS_r, pickS_r, nextS_r, famzS_r, stairS_r, lgridS_r, lftS_r]); (first | exact ⟨100000, rfl⟩ | exact rawIn_adv (by assumption) ⟨100000, rfl⟩)) | ((repeat (first | apply pick_at | apply any_at | apply uni_at | apply ord_at | apply rat_at | apply next_at | apply famz_at | apply stair_at | apply lgrid_at | apply lft_at)); exact AtOk.le (by assumption) (by first | decide | omega)) | omega | (show inI64 _; unfold inI64; omega) | (show 1 ≤ List.length _; simp; done) | (show _ * 32 ≤ 140737488355328; omega) | (show _ * 16 ≤ 140737488355328; omega) | with_reducible assumption | contradiction | exact unit_good_ (by assumption) | exact pk1 (by decide) (by decide) | exact pk2 (by decide) (by decide) | exact pk3 (by decide) (by decide) | exact pk4 (by decide) (by decide) | exact pk5 (by decide) (by decide) | skip
    all_goals first
      | exact hy | exact Int.le_trans (by decide) (hk _).1 | exact Int.le_trans (hk _).2 (by decide) | skip
    all_goals first
      | (apply some_end (ks := [.cell 56 .cur]) (rs := [.lift 76 .pt]) (_, ()) (_, ())
         case h =>
           repeat' (first | apply And.intro | exact True.intro | exact Lf.mk (by with_reducible rfl) | apply Lf.mk | with_reducible exact Eq.refl _)
           all_goals first | rfl | fail
         case q =>
           dsimp only
           refine ⟨?_, by ((repeat (first | apply adv_pick | apply adv_any | apply adv_uni | apply adv_ord | apply adv_rat | apply adv_next | apply adv_famz | apply adv_stair | apply adv_lgrid | apply adv_lft)); (first | exact Adv.refl _ _ | exact Adv.le (by assumption) (by first | decide | omega)))⟩
           first | omega | (rw [List.length_set]; omega) | (simp; done))
      | skip
    refine ⟨List Pt, fun f => ⟨[], [100000, 2], [(3, .box 47 [.own 7777777]), (7777777, .row 76 .pt f)]⟩, fun f => f.length ≤ 13, fun f => 13 - f.length, ?_, ?_⟩
    · apply start_go ([] : List Pt)
      · repeat' (first | apply And.intro | exact True.intro | exact Lf.mk (by with_reducible rfl) | apply Lf.mk | with_reducible exact Eq.refl _)
        all_goals first | rfl | trace_state
      · exact Nat.zero_le _
    · intro f k1
      repeat' (first | with_reducible apply andAll_cons | with_reducible apply andAll_nil | (with_reducible apply Cf.mk; kernel_rfl) | apply And.intro | intro _ | exact True.intro | apply Lf.mk)
      all_goals (try dsimp only at *)
      all_goals (try simp only [cur_eta, rt_eta_, List.length_cons, List.length_nil, Nat.zero_add, Nat.reduceAdd, Int.cast_ofNat_Int] at *)
      all_goals (try simp only [Bool.not_eq_true', Bool.not_eq_false', Bool.not_not, decide_eq_true_eq, decide_eq_false_iff_not, beq_iff_eq, bne_iff_ne, beq_eq_false_iff_ne, bne_eq_false_iff_eq, ne_eq, Bool.and_eq_true, Bool.and_eq_false_iff, Bool.or_eq_true, Bool.or_eq_false_iff, Int.toNat_natCast, Nat.zero_add, Int.ofNat_lt, Int.ofNat_le, List.length_cons, List.length_nil, List.drop_zero, List.take_length] at *)
      all_goals first | ((try simp only [anyS_r, ratS_r, uniS_r, ordS_r, pickS_r, nextS_r, famzS_r, stairS_r, lgridS_r, lftS_r]); (first | exact ⟨100000, rfl⟩ | exact rawIn_adv (by assumption) ⟨100000, rfl⟩)) | ((repeat (first | apply pick_at | apply any_at | apply uni_at | apply ord_at | apply rat_at | apply next_at | apply famz_at | apply stair_at | apply lgrid_at | apply lft_at)); exact AtOk.le (by assumption) (by first | decide | omega)) | omega | (show inI64 _; unfold inI64; omega) | (show 1 ≤ List.length _; simp; done) | (show _ * 32 ≤ 140737488355328; omega) | (show _ * 16 ≤ 140737488355328; omega) | with_reducible assumption | contradiction | exact unit_good_ (by assumption) | exact pk1 (by decide) (by decide) | exact pk2 (by decide) (by decide) | exact pk3 (by decide) (by decide) | exact pk4 (by decide) (by decide) | exact pk5 (by decide) (by decide) | skip
      · apply round_go _
        · repeat' (first | apply And.intro | exact True.intro | exact Lf.mk (by with_reducible rfl) | apply Lf.mk | with_reducible exact Eq.refl _)
          all_goals first | rfl | trace_state
        · rw [List.length_append, List.length_cons, List.length_nil]; omega
        · rw [List.length_append, List.length_cons, List.length_nil]; omega
      · apply some_end (ks := [.cell 56 .cur]) (rs := [.lift 76 .pt]) (_, ()) (_, ())
        · repeat' (first | apply And.intro | exact True.intro | exact Lf.mk (by with_reducible rfl) | apply Lf.mk | with_reducible exact Eq.refl _)
        · dsimp only
          exact ⟨by omega, by ((repeat (first | apply adv_pick | apply adv_any | apply adv_uni | apply adv_ord | apply adv_rat | apply adv_next | apply adv_famz | apply adv_stair | apply adv_lgrid | apply adv_lft)); (first | exact Adv.refl _ _ | exact Adv.le (by assumption) (by first | decide | omega)))⟩)
  exact ⟨fun c => (V c ()).1, fun c => S c (), fun c hA => h1 c () trivial hA trivial, fun c => h2 c (), h3⟩
@[irreducible] noncomputable def alftV : Cur → List Pt := Classical.choose ex_cur_anyLift
@[irreducible] noncomputable def alftS : Cur → Cur := Classical.choose (Classical.choose_spec ex_cur_anyLift)
theorem alft_spec : (∀ (c : Cur), AtOk 400 c → ((alftV c).length ≤ 62)) ∧ (∀ (c : Cur), Adv 400 c (alftS c)) ∧ GSpec Tryz.prog ⟨62, [.cell 56 .cur], [.lift 76 .pt], fun ((c : Cur), _) => ⟨[AtOk 400 c], (alftV c, ()), (alftS c, ())⟩⟩ := by
  unfold alftV alftS
  exact (Classical.choose_spec (Classical.choose_spec ex_cur_anyLift))
theorem alft_ok {c : Cur} (hA : AtOk 400 c) : (alftV c).length ≤ 62 := alft_spec.1 c hA
theorem alftS_r (c : Cur) : (alftS c).r = c.r := (alft_spec.2.1 c).r
theorem alft_at {m : Nat} {c : Cur} (h : AtOk (m + 400) c) : AtOk m (alftS c) := (alft_spec.2.1 c).at_ h
theorem adv_alft {k : Nat} {c d : Cur} (h : Adv k c d) : Adv (k + 400) c (alftS d) := h.trans (alft_spec.2.1 d) (Nat.le_refl _)
noncomputable def s_cur_anyLift : Sig := ⟨62, [.cell 56 .cur], [.lift 76 .pt], fun ((c : Cur), _) => ⟨[AtOk 400 c], (alftV c, ()), (alftS c, ())⟩⟩
theorem ok_cur_anyLift : GSpec Tryz.prog s_cur_anyLift := alft_spec.2.2
end Go.Vx
