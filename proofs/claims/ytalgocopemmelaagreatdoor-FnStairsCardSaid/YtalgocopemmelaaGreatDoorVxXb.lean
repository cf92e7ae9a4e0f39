/- What is drawn: lifts on a grid. -/
import Derived.Test.YtalgocopemmelaaGreatDoorVxXa
namespace Go.Vx
open Go Go.Proofs
set_option maxRecDepth 100000
set_option linter.unusedSimpArgs false
set_option linter.unusedVariables false

set_option maxHeartbeats 40000000 in
theorem ex_cur_liftGrid : ∃ (V : Cur → Int → List Pt) (S : Cur → Int → Cur), (∀ (c : Cur) (n : Int), AtOk 300 c → 1 ≤ n → n ≤ 100 → (2 ≤ (V c n).length ∧ (V c n).length ≤ 62 ∧ GY (V c n))) ∧ (∀ (c : Cur) (n : Int), Adv 300 c (S c n)) ∧ GSpec Tryz.prog ⟨63, [.cell 56 .cur, .val NI], [.lift 76 .pt], fun ((c : Cur), (n : Int), _) => ⟨[AtOk 300 c, 1 ≤ n, n ≤ 100], (V c n, ()), (S c n, ())⟩⟩ := by
  obtain ⟨V, S, h1, h2, h3⟩ := some_c (P := Tryz.prog) tab_ok fol ((((((((((Known.nil.cons ok_cur_among (by kernel_rfl)).cons ok_cur_one (by kernel_rfl)).cons ok_cur_gridRat (by kernel_rfl)).cons ok_spec_raInt (by kernel_rfl)).cons ok_spec_imPut (by kernel_rfl)).cons ok_spec_liPlus (by kernel_rfl)).cons ok_spec_l1Most (by kernel_rfl)).cons ok_cur_pick (by kernel_rfl)).cons ok_spec_raMake (by kernel_rfl)).cons ok_spec_raAdd (by kernel_rfl)) (f := 63) (t := 56) (ks := [.val NI]) (rs := [.lift 76 .pt]) (by decide) Tryz.func63 300 (fun y => match y with | ((n : Int), _) => [1 ≤ n, n ≤ 100]) (fun y R => match y, R with | ((n : Int), _), ((v : List Pt), _) => 2 ≤ v.length ∧ v.length ≤ 62 ∧ GY v) (fun _ _ => rfl) (by
    rintro c ⟨(n : Int), ⟨⟩⟩ hl hc hpre
    obtain ⟨h1, h2, _⟩ := hpre
    have hk : ∀ d : Cur, -5 ≤ amongV d [-5, -1, 1, 3] ∧ amongV d [-5, -1, 1, 3] ≤ 3 := fun d => among_rng d (-5) 3 (by decide) (by decide)
    repeat' (first | with_reducible apply andAll_cons | with_reducible apply andAll_nil | (with_reducible apply Cf.mk; kernel_rfl) | apply And.intro | intro _ | exact True.intro | apply Lf.mk)
    all_goals first
      | ((try simp only [anyS_r, ratS_r, uniS_r, ordS_r, pickS_r, nextS_r, famzS_r, stairS_r]); (first | exact ⟨100000, rfl⟩ | exact rawIn_adv (by assumption) ⟨100000, rfl⟩)) | ((repeat (first | apply pick_at | apply any_at | apply uni_at | apply ord_at | apply rat_at | apply next_at | apply famz_at | apply stair_at)); exact AtOk.le (by assumption) (by first | decide | omega)) | (show 1 ≤ List.length _; simp; done) | omega | skip
    all_goals (
      refine ⟨Cur × List Rt × Nat, fun x => ⟨[(6, .sc (.own 7777777)), (7, .sc (.num .i64 x.2.2))], [4], [(7777777, .row 30 .rat x.2.1), (100000, cuB x.1)]⟩, fun x => Adv (4 + 2 * x.2.2) c x.1 ∧ Gd x.2.1 ∧ 2 ≤ x.2.1.length ∧ x.2.1.length ≤ 2 + x.2.2 ∧ x.2.2 ≤ 60, fun x => 60 - x.2.2, ?_, ?_⟩
      · apply start_go (_, _, 0)
        case hf =>
          repeat' (first | apply And.intro | exact True.intro | exact Lf.mk (by with_reducible rfl) | apply Lf.mk | with_reducible exact Eq.refl _)
          all_goals first | rfl | skip
        case h =>
          dsimp only
          refine ⟨?_, ?_, ?_, ?_, Nat.zero_le _⟩
          · ((repeat (first | apply adv_pick | apply adv_any | apply adv_uni | apply adv_ord | apply adv_rat | apply adv_next | apply adv_famz | apply adv_stair)); (first | exact Adv.refl _ _ | exact Adv.le (by assumption) (by first | decide | omega)))
          · intro x hx
            simp only [List.mem_cons, List.not_mem_nil, or_false] at hx
            rcases hx with rfl | rfl
            · exact good_zero
            · exact good_one
          · exact Nat.le_refl _
          · exact Nat.le_refl _
      · rintro ⟨d, xs, i⟩ ⟨g1, g2, g3, g4, g5⟩
        dsimp only at g1 g2 g3 g4 g5
        have hd : AtOk 170 d := Adv.at_ g1 (hc.le (by omega))
        have hm := among_rng c (l := [0, 1, 1, 2, 3]) 0 3 (by decide) (by decide)
        have gg := griV_good (c := d) h1 (by omega : n ≤ 100000)
        have l1 := putL_len (griV d n) xs
        have l2 := putL_ge (griV d n) xs
        repeat' (first | with_reducible apply andAll_cons | with_reducible apply andAll_nil | (with_reducible apply Cf.mk; kernel_rfl) | apply And.intro | intro _ | exact True.intro | apply Lf.mk)
        all_goals (try dsimp only at *)
        all_goals (try simp only [Bool.not_eq_true', Bool.not_eq_false', Bool.not_not, decide_eq_true_eq, decide_eq_false_iff_not, beq_iff_eq, bne_iff_ne, beq_eq_false_iff_ne, bne_eq_false_iff_eq, ne_eq, Bool.and_eq_true, Bool.and_eq_false_iff, Bool.or_eq_true, Bool.or_eq_false_iff, Int.toNat_natCast, Nat.zero_add, Int.ofNat_lt, Int.ofNat_le, List.length_cons, List.length_nil, List.drop_zero, List.take_length] at *)
        all_goals (try simp only [cur_eta] at *)
        all_goals first
          | ((try simp only [anyS_r, ratS_r, uniS_r, ordS_r, pickS_r, nextS_r, famzS_r, stairS_r]); (first | exact ⟨100000, rfl⟩ | exact rawIn_adv (by assumption) ⟨100000, rfl⟩)) | ((repeat (first | apply pick_at | apply any_at | apply uni_at | apply ord_at | apply rat_at | apply next_at | apply famz_at | apply stair_at)); exact AtOk.le (by assumption) (by first | decide | omega)) | omega | exact g2 _ (by assumption) | exact gg | (show inI64 _; unfold inI64; omega) | (show 1 ≤ List.length _; simp; done) | exact (fst_gri h1 h2).1
          | exact Int.le_trans (by decide) (hk _).1 | exact Int.le_trans (hk _).2 (by decide)
          | skip
        · apply round_go (_, _, i + 1)
          · repeat' (first | apply And.intro | exact True.intro | exact Lf.mk (by with_reducible rfl) | apply Lf.mk | with_reducible exact Eq.refl _)
            all_goals first | rfl | (rw [Int.natCast_add]; rfl) | trace_state
          · dsimp only; omega
          · dsimp only
            exact ⟨g1.trans (pick_adv _ _) (by omega), putL_good g2 gg, Nat.le_trans g3 l2, Nat.le_trans l1 (by omega), by omega⟩
        all_goals (
          refine ⟨Cur × List Int × Rt, fun x => ⟨[(9, .sc (.own 8888888))], [7777777, 4], [(8888888, .row 3 NI x.2.1), (8, .box 30 [.num .i64 x.2.2.num, .num .i64 x.2.2.den]), (100000, cuB x.1)]⟩, fun x => Adv (140 + 2 * x.2.1.length) c x.1 ∧ InR n x.2.1 ∧ 1 ≤ x.2.1.length ∧ x.2.1.length ≤ xs.length - 1 ∧ Fst x.2.2, fun x => xs.length - x.2.1.length, ?_, ?_⟩
          · first
            | (apply start_go (_, ([0] : List Int), (griV d n : Rt))
               case hf =>
                 repeat' (first | apply And.intro | exact True.intro | exact Lf.mk (by with_reducible rfl) | apply Lf.mk | with_reducible exact Eq.refl _)
                 all_goals first | rfl | fail
               case h =>
                 dsimp only
                 refine ⟨?_, ?_, Nat.le_refl _, by show 1 ≤ xs.length - 1; omega, fst_gri h1 h2⟩
                 · exact g1.trans (j := 10) (by ((repeat (first | apply adv_pick | apply adv_any | apply adv_uni | apply adv_ord | apply adv_rat | apply adv_next | apply adv_famz | apply adv_stair)); (first | exact Adv.refl _ _ | exact Adv.le (by assumption) (by first | decide | omega)))) (by omega)
                 · intro x hx
                   rw [List.mem_singleton.1 hx]; omega)
            | (apply start_go (_, ([0] : List Int), (⟨(griV d n).num + amongV (pickS (pickS d (n + 1)) 6) [-5, -1, 1, 3] * (griV d n).den, (griV d n).den⟩ : Rt))
               case hf =>
                 repeat' (first | apply And.intro | exact True.intro | exact Lf.mk (by with_reducible rfl) | apply Lf.mk | with_reducible exact Eq.refl _)
                 all_goals first | rfl | fail
               case h =>
                 dsimp only
                 refine ⟨?_, ?_, Nat.le_refl _, by show 1 ≤ xs.length - 1; omega, fst_plus h1 h2 (hk _)⟩
                 · exact g1.trans (j := 10) (by ((repeat (first | apply adv_pick | apply adv_any | apply adv_uni | apply adv_ord | apply adv_rat | apply adv_next | apply adv_famz | apply adv_stair)); (first | exact Adv.refl _ _ | exact Adv.le (by assumption) (by first | decide | omega)))) (by omega)
                 · intro x hx
                   rw [List.mem_singleton.1 hx]; omega)
          · rintro ⟨e, u, x⟩ ⟨k1, k2, k3, k4, k5⟩
            dsimp only at k1 k2 k3 k4 k5
            have he : AtOk 10 e := Adv.at_ k1 (hc.le (by omega))
            have hq := pickV_lt e (n := n + 1) (by omega)
            have hu := k2.get (by omega) (u.length - 1)
            repeat' (first | with_reducible apply andAll_cons | with_reducible apply andAll_nil | (with_reducible apply Cf.mk; kernel_rfl) | apply And.intro | intro _ | exact True.intro | apply Lf.mk)
            all_goals (try dsimp only at *)
            all_goals (try simp only [Bool.not_eq_true', Bool.not_eq_false', Bool.not_not, decide_eq_true_eq, decide_eq_false_iff_not, beq_iff_eq, bne_iff_ne, beq_eq_false_iff_ne, bne_eq_false_iff_eq, ne_eq, Bool.and_eq_true, Bool.and_eq_false_iff, Bool.or_eq_true, Bool.or_eq_false_iff, Int.toNat_natCast, Nat.zero_add, Int.ofNat_lt, Int.ofNat_le, List.length_cons, List.length_nil, List.drop_zero, List.take_length] at *)
            all_goals (try simp only [cur_eta] at *)
            all_goals first
              | ((try simp only [anyS_r, ratS_r, uniS_r, ordS_r, pickS_r, nextS_r, famzS_r, stairS_r]); (first | exact ⟨100000, rfl⟩ | exact rawIn_adv (by assumption) ⟨100000, rfl⟩)) | ((repeat (first | apply pick_at | apply any_at | apply uni_at | apply ord_at | apply rat_at | apply next_at | apply famz_at | apply stair_at)); exact AtOk.le (by assumption) (by first | decide | omega)) | omega | (show inI64 _; unfold inI64; omega) | (show (_ + 1) * 8 ≤ 140737488355328; omega) | (show _ * 8 ≤ 140737488355328; omega)
              | skip
            · apply round_go (_, _, _)
              case hf =>
                repeat' (first | apply And.intro | exact True.intro | exact Lf.mk (by with_reducible rfl) | apply Lf.mk | with_reducible exact Eq.refl _)
                all_goals first | rfl | trace_state
              case hm => dsimp only; rw [List.length_append, List.length_cons, List.length_nil]; omega
              case h =>
                dsimp only
                have e7 : ((u.length : Int) - 1).toNat = u.length - 1 := by omega
                refine ⟨?_, ?_, ?_, ?_, k5⟩
                · rw [List.length_append, List.length_cons, List.length_nil]; exact k1.trans (j := 2) (by ((repeat (first | apply adv_pick | apply adv_any | apply adv_uni | apply adv_ord | apply adv_rat | apply adv_next | apply adv_famz | apply adv_stair)); (first | exact Adv.refl _ _ | exact Adv.le (by assumption) (by first | decide | omega)))) (by omega)
                · rw [e7]; exact k2.app (toN_bd hu _ hq)
                · rw [List.length_append]; omega
                · rw [List.length_append, List.length_cons, List.length_nil]; omega
            · have ku : u.length = xs.length - 1 := by omega
              refine ⟨List Pt × Nat, fun x => ⟨[(73, .sc (.num .i64 x.2)), (10, .sc (.own 9999999))], [7777777, 8888888, 4, 8, 100000], [(9999999, .row 76 .pt x.1)]⟩, fun x => GY x.1 ∧ x.1.length = x.2 ∧ x.2 ≤ xs.length, fun x => xs.length - x.2, ?_, ?_⟩
              · apply start_go (([] : List Pt), 0)
                case hf =>
                  repeat' (first | apply And.intro | exact True.intro | exact Lf.mk (by with_reducible rfl) | apply Lf.mk | with_reducible exact Eq.refl _)
                  all_goals first | rfl | trace_state
                case h => exact ⟨fun _ h => absurd h (List.not_mem_nil), rfl, Nat.zero_le _⟩
              · rintro ⟨f, j⟩ ⟨q1, q2, q3⟩
                dsimp only at q1 q2 q3
                have kg : goodRt x = true := k5.1
                have ko : okRt x = true := ok_good kg
                have ku1 := k5.one
                have ku2 := k5.add (k2.get (by omega) j) ⟨h1, h2⟩
                repeat' (first | with_reducible apply andAll_cons | with_reducible apply andAll_nil | (with_reducible apply Cf.mk; kernel_rfl) | apply And.intro | intro _ | exact True.intro | apply Lf.mk)
                all_goals (try dsimp only at *)
                all_goals (try simp only [Bool.not_eq_true', Bool.not_eq_false', Bool.not_not, decide_eq_true_eq, decide_eq_false_iff_not, beq_iff_eq, bne_iff_ne, beq_eq_false_iff_ne, bne_eq_false_iff_eq, ne_eq, Bool.and_eq_true, Bool.and_eq_false_iff, Bool.or_eq_true, Bool.or_eq_false_iff, Int.toNat_natCast, Nat.zero_add, Int.ofNat_lt, Int.ofNat_le, List.length_cons, List.length_nil, List.drop_zero, List.take_length] at *)
                all_goals (try simp only [cur_eta, rt_eta_] at *)
                all_goals first
                  | omega | (show inI64 _; unfold inI64; omega) | (show (_ + 1) * 32 ≤ 140737488355328; omega) | with_reducible exact kg | with_reducible exact ko | with_reducible exact lowRt_ok
                  | exact Int.lt_of_lt_of_le (by decide) (k2.get (by omega) j).1 | exact Int.le_trans (k2.get (by omega) j).2 (by omega)
                  | skip
                all_goals first
                  | (apply round_go (_, j + 1)
                     case hf =>
                       repeat' (first | apply And.intro | exact True.intro | exact Lf.mk (by with_reducible rfl) | apply Lf.mk | with_reducible exact Eq.refl _)
                       all_goals first | rfl | (rw [Int.natCast_add]; rfl) | fail
                     case hm => dsimp only; omega
                     case h =>
                       dsimp only
                       refine ⟨q1.app ?_, by rw [List.length_append, q2]; rfl, by omega⟩
                       first
                         | exact kg | exact ku1 | exact ku2)
                  | (apply some_end (ks := [.cell 56 .cur, .val NI]) (rs := [.lift 76 .pt]) (_, ()) (_, ())
                     case h =>
                       repeat' (first | apply And.intro | exact True.intro | exact Lf.mk (by with_reducible rfl) | apply Lf.mk | with_reducible exact Eq.refl _)
                       all_goals first | rfl | fail
                     case q =>
                       dsimp only
                       exact ⟨⟨by omega, by omega, q1⟩, k1.trans (j := 0) (by ((repeat (first | apply adv_pick | apply adv_any | apply adv_uni | apply adv_ord | apply adv_rat | apply adv_next | apply adv_famz | apply adv_stair)); (first | exact Adv.refl _ _ | exact Adv.le (by assumption) (by first | decide | omega)))) (by omega)⟩)
                  | trace_state)))
  exact ⟨fun c n => (V c (n, ())).1, fun c n => S c (n, ()), fun c n hA p0 p1 => h1 c (n, ()) trivial hA ⟨p0, p1, trivial⟩, fun c n => h2 c (n, ()), h3⟩
@[irreducible] noncomputable def lgridV : Cur → Int → List Pt := Classical.choose ex_cur_liftGrid
@[irreducible] noncomputable def lgridS : Cur → Int → Cur := Classical.choose (Classical.choose_spec ex_cur_liftGrid)
theorem lgrid_spec : (∀ (c : Cur) (n : Int), AtOk 300 c → 1 ≤ n → n ≤ 100 → (2 ≤ (lgridV c n).length ∧ (lgridV c n).length ≤ 62 ∧ GY (lgridV c n))) ∧ (∀ (c : Cur) (n : Int), Adv 300 c (lgridS c n)) ∧ GSpec Tryz.prog ⟨63, [.cell 56 .cur, .val NI], [.lift 76 .pt], fun ((c : Cur), (n : Int), _) => ⟨[AtOk 300 c, 1 ≤ n, n ≤ 100], (lgridV c n, ()), (lgridS c n, ())⟩⟩ := by
  unfold lgridV lgridS
  exact (Classical.choose_spec (Classical.choose_spec ex_cur_liftGrid))
theorem lgrid_ok {c : Cur} {n : Int} (hA : AtOk 300 c) (p0 : 1 ≤ n) (p1 : n ≤ 100) : 2 ≤ (lgridV c n).length ∧ (lgridV c n).length ≤ 62 ∧ GY (lgridV c n) := lgrid_spec.1 c n hA p0 p1
theorem lgridS_r (c : Cur) (n : Int) : (lgridS c n).r = c.r := (lgrid_spec.2.1 c n).r
theorem lgrid_at {m : Nat} {c : Cur} {n : Int} (h : AtOk (m + 300) c) : AtOk m (lgridS c n) := (lgrid_spec.2.1 c n).at_ h
theorem adv_lgrid {k : Nat} {c d : Cur} {n : Int} (h : Adv k c d) : Adv (k + 300) c (lgridS d n) := h.trans (lgrid_spec.2.1 d n) (Nat.le_refl _)
noncomputable def s_cur_liftGrid : Sig := ⟨63, [.cell 56 .cur, .val NI], [.lift 76 .pt], fun ((c : Cur), (n : Int), _) => ⟨[AtOk 300 c, 1 ≤ n, n ≤ 100], (lgridV c n, ()), (lgridS c n, ())⟩⟩
theorem ok_cur_liftGrid : GSpec Tryz.prog s_cur_liftGrid := lgrid_spec.2.2
end Go.Vx
