/- What is drawn: maps. -/
import Derived.Test.YtjiafbjoijffjaaGreatPk13
import Derived.Test.YtjiafbjoijffjaaGreatPk14
import Derived.Test.YtjiafbjoijffjaaGreatPk15
namespace Go.Vx
open Go Go.Proofs
set_option maxRecDepth 100000
set_option linter.unusedSimpArgs false
set_option linter.unusedVariables false

theorem griV_good {c : Cur} {n : Int} (h : 1 ≤ n) (h2 : n ≤ 100000) : goodRt (griV c n) = true := by
  have h3 := pickV_lt c (n := n + 1) (by omega)
  unfold griV
  exact lowRt_good1 (low_small (by omega) (by omega) (by omega))
theorem putL_ge (x : Rt) : ∀ (l : List Rt), l.length ≤ (putL l x).length
  | [] => Nat.zero_le _
  | y :: r => by
    rw [putL_cons]
    split
    · simp only [List.length_cons]; have := putL_ge x r; omega
    · split
      · exact Nat.le_refl _
      · simp only [List.length_cons]; omega

set_option maxHeartbeats 1000000 in
theorem ex_cur_imGrid : ∃ (V : Cur → Int → List Pt) (S : Cur → Int → Cur), (∀ (c : Cur) (n : Int), AtOk 300 c → 1 ≤ n → n ≤ 100 → (2 ≤ (V c n).length ∧ (V c n).length ≤ 62)) ∧ (∀ (c : Cur) (n : Int), Adv 300 c (S c n)) ∧ GSpec Tryz.prog ⟨234, [.cell 93 .cur, .val NI], [.list 107 .pt], fun ((c : Cur), (n : Int), _) => ⟨[AtOk 300 c, 1 ≤ n, n ≤ 100], (V c n, ()), (S c n, ())⟩⟩ := by
  obtain ⟨V, S, h1, h2, h3⟩ := some_c (P := Tryz.prog) tab_ok fol (((((Known.nil.cons ok_cur_among (by kernel_rfl)).cons ok_cur_one (by kernel_rfl)).cons ok_cur_gridRat (by kernel_rfl)).cons ok_spec_raInt (by kernel_rfl)).cons ok_spec_imPut (by kernel_rfl)) (f := 234) (t := 93) (ks := [.val NI]) (rs := [.list 107 .pt]) (by decide) Tryz.func234 300 (fun y => match y with | ((n : Int), _) => [1 ≤ n, n ≤ 100]) (fun y R => match y, R with | ((n : Int), _), ((v : List Pt), _) => 2 ≤ v.length ∧ v.length ≤ 62) (fun _ _ => rfl) (by
    rintro c ⟨(n : Int), ⟨⟩⟩ hl hc hpre
    obtain ⟨h1, h2, _⟩ := hpre
    repeat' (first | with_reducible apply andAll_cons | with_reducible apply andAll_nil | (with_reducible apply Cf.mk; kernel_rfl) | apply And.intro | intro _ | exact True.intro | apply Lf.mk)
    all_goals first
      | ((try simp only [anyS_r, ratS_r, uniS_r, ordS_r, pickS_r, nextS_r]); (first | exact ⟨100000, rfl⟩ | exact rawIn_adv (by assumption) ⟨100000, rfl⟩)) | ((repeat (first | apply pick_at | apply any_at | apply uni_at | apply ord_at | apply rat_at | apply next_at)); exact AtOk.le (by assumption) (by first | decide | omega)) | (show 1 ≤ List.length _; simp; done) | omega | skip
    all_goals (
      refine ⟨Cur × List Rt × Nat, fun x => ⟨[(6, .sc (.own 7777777)), (7, .sc (.num .i64 x.2.2))], [], [(7777777, .row 26 .rat x.2.1), (100000, cuB x.1)]⟩, fun x => Adv (4 + 2 * x.2.2) c x.1 ∧ Gd x.2.1 ∧ 2 ≤ x.2.1.length ∧ x.2.1.length ≤ 2 + x.2.2 ∧ x.2.2 ≤ 60, fun x => 60 - x.2.2, ?_, ?_⟩
      · apply start_go (_, _, 0)
        case hf =>
          repeat' (first | apply And.intro | exact True.intro | exact Lf.mk (by with_reducible rfl) | apply Lf.mk | with_reducible exact Eq.refl _)
          all_goals first | rfl | skip
        case h =>
          dsimp only
          refine ⟨?_, ?_, ?_, ?_, Nat.zero_le _⟩
          · ((repeat (first | apply adv_pick | apply adv_any | apply adv_uni | apply adv_ord | apply adv_rat | apply adv_next)); (first | exact Adv.refl _ _ | exact Adv.le (by assumption) (by first | decide | omega)))
          · intro x hx
            simp only [List.mem_cons, List.not_mem_nil, or_false] at hx
            rcases hx with rfl | rfl
            · exact good_zero
            · exact good_one
          · exact Nat.le_refl _
          · exact Nat.le_refl _
      · rintro ⟨d, xs, i⟩ ⟨g1, g2, g3, g4, g5⟩
        dsimp only at g1 g2 g3 g4 g5
        have hd : AtOk 100 d := Adv.at_ g1 (hc.le (by omega))
        have hm := among_rng c (l := [0, 1, 1, 2, 3]) 0 3 (by decide) (by decide)
        have gg := griV_good (c := d) h1 (by omega : n ≤ 100000)
        have l1 := putL_len (griV d n) xs
        have l2 := putL_ge (griV d n) xs
        repeat' (first | with_reducible apply andAll_cons | with_reducible apply andAll_nil | (with_reducible apply Cf.mk; kernel_rfl) | apply And.intro | intro _ | exact True.intro | apply Lf.mk)
        all_goals (try dsimp only at *)
        all_goals (try simp only [Bool.not_eq_true', Bool.not_eq_false', Bool.not_not, decide_eq_true_eq, decide_eq_false_iff_not, beq_iff_eq, bne_iff_ne, beq_eq_false_iff_ne, bne_eq_false_iff_eq, ne_eq, Bool.and_eq_true, Bool.and_eq_false_iff, Bool.or_eq_true, Bool.or_eq_false_iff, Int.toNat_natCast, Nat.zero_add, Int.ofNat_lt, Int.ofNat_le, List.length_cons, List.length_nil, List.drop_zero, List.take_length] at *)
        all_goals (try simp only [cur_eta] at *)
        all_goals first
          | ((try simp only [anyS_r, ratS_r, uniS_r, ordS_r, pickS_r, nextS_r]); (first | exact ⟨100000, rfl⟩ | exact rawIn_adv (by assumption) ⟨100000, rfl⟩)) | ((repeat (first | apply pick_at | apply any_at | apply uni_at | apply ord_at | apply rat_at | apply next_at)); exact AtOk.le (by assumption) (by first | decide | omega)) | omega | exact g2 _ (by assumption) | exact gg | (show inI64 _; unfold inI64; omega)
          | skip
        · apply round_go (_, _, i + 1)
          · repeat' (first | apply And.intro | exact True.intro | exact Lf.mk (by with_reducible rfl) | apply Lf.mk | with_reducible exact Eq.refl _)
            all_goals first | rfl | (rw [Int.natCast_add]; rfl) | trace_state
          · dsimp only; omega
          · dsimp only
            exact ⟨g1.trans (pick_adv _ _) (by omega), putL_good g2 gg, Nat.le_trans g3 l2, Nat.le_trans l1 (by omega), by omega⟩
        all_goals (
          refine ⟨Cur × List Pt × Nat, fun x => ⟨[(37, .sc (.num .i64 x.2.2)), (8, .sc (.own 8888888))], [7777777], [(8888888, .row 107 .pt x.2.1), (100000, cuB x.1)]⟩, fun x => Adv (130 + 2 * x.2.2) c x.1 ∧ x.2.1.length = x.2.2 ∧ x.2.2 ≤ xs.length, fun x => xs.length - x.2.2, ?_, ?_⟩
          · apply start_go (_, ([] : List Pt), 0)
            · repeat' (first | apply And.intro | exact True.intro | exact Lf.mk (by with_reducible rfl) | apply Lf.mk | with_reducible exact Eq.refl _)
              all_goals first | rfl | trace_state
            · dsimp only
              exact ⟨g1.le (by omega), rfl, Nat.zero_le _⟩
          · rintro ⟨e, f, j⟩ ⟨k1, k2, k3⟩
            dsimp only at k1 k2 k3
            have he : AtOk 10 e := Adv.at_ k1 (hc.le (by omega))
            repeat' (first | with_reducible apply andAll_cons | with_reducible apply andAll_nil | (with_reducible apply Cf.mk; kernel_rfl) | apply And.intro | intro _ | exact True.intro | apply Lf.mk)
            all_goals (try dsimp only at *)
            all_goals (try simp only [Bool.not_eq_true', Bool.not_eq_false', Bool.not_not, decide_eq_true_eq, decide_eq_false_iff_not, beq_iff_eq, bne_iff_ne, beq_eq_false_iff_ne, bne_eq_false_iff_eq, ne_eq, Bool.and_eq_true, Bool.and_eq_false_iff, Bool.or_eq_true, Bool.or_eq_false_iff, Int.toNat_natCast, Nat.zero_add, Int.ofNat_lt, Int.ofNat_le, List.length_cons, List.length_nil, List.drop_zero, List.take_length] at *)
            all_goals first
              | ((try simp only [anyS_r, ratS_r, uniS_r, ordS_r, pickS_r, nextS_r]); (first | exact ⟨100000, rfl⟩ | exact rawIn_adv (by assumption) ⟨100000, rfl⟩)) | ((repeat (first | apply pick_at | apply any_at | apply uni_at | apply ord_at | apply rat_at | apply next_at)); exact AtOk.le (by assumption) (by first | decide | omega)) | omega | exact gg | (show inI64 _; unfold inI64; omega) | (show (_ + 1) * 32 ≤ 140737488355328; omega)
              | skip
            · apply round_go (_, _, j + 1)
              · repeat' (first | apply And.intro | exact True.intro | exact Lf.mk (by with_reducible rfl) | apply Lf.mk | with_reducible exact Eq.refl _)
                all_goals first | rfl | (rw [Int.natCast_add]; rfl) | trace_state
              · dsimp only; omega
              · dsimp only
                exact ⟨k1.trans (pick_adv _ _) (by omega), by rw [List.length_append, k2]; rfl, by omega⟩
            · apply some_end (ks := [.cell 93 .cur, .val NI]) (rs := [.list 107 .pt]) (_, ()) (_, ())
              · repeat' (first | apply And.intro | exact True.intro | exact Lf.mk (by with_reducible rfl) | apply Lf.mk | with_reducible exact Eq.refl _)
                all_goals trace_state
              · dsimp only
                exact ⟨⟨by omega, by omega⟩, k1.le (by omega)⟩)))
  exact ⟨fun c n => (V c (n, ())).1, fun c n => S c (n, ()), fun c n hA p0 p1 => h1 c (n, ()) trivial hA ⟨p0, p1, trivial⟩, fun c n => h2 c (n, ()), h3⟩
@[irreducible] noncomputable def imGridV : Cur → Int → List Pt := Classical.choose ex_cur_imGrid
@[irreducible] noncomputable def imGridS : Cur → Int → Cur := Classical.choose (Classical.choose_spec ex_cur_imGrid)
theorem imGrid_spec : (∀ (c : Cur) (n : Int), AtOk 300 c → 1 ≤ n → n ≤ 100 → (2 ≤ (imGridV c n).length ∧ (imGridV c n).length ≤ 62)) ∧ (∀ (c : Cur) (n : Int), Adv 300 c (imGridS c n)) ∧ GSpec Tryz.prog ⟨234, [.cell 93 .cur, .val NI], [.list 107 .pt], fun ((c : Cur), (n : Int), _) => ⟨[AtOk 300 c, 1 ≤ n, n ≤ 100], (imGridV c n, ()), (imGridS c n, ())⟩⟩ := by
  unfold imGridV imGridS
  exact (Classical.choose_spec (Classical.choose_spec ex_cur_imGrid))
theorem imGrid_ok {c : Cur} {n : Int} (hA : AtOk 300 c) (p0 : 1 ≤ n) (p1 : n ≤ 100) : 2 ≤ (imGridV c n).length ∧ (imGridV c n).length ≤ 62 := imGrid_spec.1 c n hA p0 p1
theorem imGridS_r (c : Cur) (n : Int) : (imGridS c n).r = c.r := (imGrid_spec.2.1 c n).r
theorem imGrid_at {m : Nat} {c : Cur} {n : Int} (h : AtOk (m + 300) c) : AtOk m (imGridS c n) := (imGrid_spec.2.1 c n).at_ h
theorem adv_imGrid {k : Nat} {c d : Cur} {n : Int} (h : Adv k c d) : Adv (k + 300) c (imGridS d n) := h.trans (imGrid_spec.2.1 d n) (Nat.le_refl _)
noncomputable def s_cur_imGrid : Sig := ⟨234, [.cell 93 .cur, .val NI], [.list 107 .pt], fun ((c : Cur), (n : Int), _) => ⟨[AtOk 300 c, 1 ≤ n, n ≤ 100], (imGridV c n, ()), (imGridS c n, ())⟩⟩
theorem ok_cur_imGrid : GSpec Tryz.prog s_cur_imGrid := imGrid_spec.2.2

/-! tents -/
theorem mod2_rng (i : Nat) : 0 ≤ ((i : Int).tmod 2) ∧ ((i : Int).tmod 2) ≤ 1 := by
  rw [Int.tmod_eq_emod_of_nonneg (by omega)]; omega

theorem unit_num {x : Rt} (h : goodRt x = true) : -1000000000 ≤ x.num ∧ x.num ≤ 1000000000 ∧ 1 ≤ x.den ∧ x.den ≤ 1000000000 := by
  have := goodRt_iff.1 h
  omega
theorem ex_spec_imMirror : ∃ (V : Rt → Rt), (∀ (x : Rt), goodRt x = true → (True)) ∧ GSpec Tryz.prog ⟨215, [.val .rat], [.val .rat], fun ((x : Rt), _) => ⟨[goodRt x = true], (V x, ()), ()⟩⟩ := by
  obtain ⟨V, O, h1, h3⟩ := fn_some (P := Tryz.prog) tab_ok fol Known.nil (f := 215) (ks := [.val .rat]) (rs := [.val .rat]) (by decide) Tryz.func215 (pre := fun y => match y with | ((x : Rt), _) => [goodRt x = true]) (Q := fun y R _ => match y, R with | ((x : Rt), _), ((v : Rt), _) => True) (by
    rintro ⟨(x : Rt), ⟨⟩⟩ hl hpre
    obtain ⟨h1, _⟩ := hpre
    have h2 := unit_num h1
    repeat' (first | with_reducible apply andAll_cons | with_reducible apply andAll_nil | (with_reducible apply Cf.mk; kernel_rfl) | apply And.intro | intro _ | exact True.intro | apply Lf.mk)
    all_goals (try dsimp only at *)
    all_goals (try simp only [cur_eta, rt_eta_, List.length_cons, List.length_nil, Nat.zero_add, Nat.reduceAdd, Int.cast_ofNat_Int] at *)
    all_goals (try simp only [Bool.not_eq_true', Bool.not_eq_false', Bool.not_not, decide_eq_true_eq, decide_eq_false_iff_not, beq_iff_eq, bne_iff_ne, beq_eq_false_iff_ne, bne_eq_false_iff_eq, ne_eq, Bool.and_eq_true, Bool.and_eq_false_iff, Bool.or_eq_true, Bool.or_eq_false_iff, Int.toNat_natCast, Nat.zero_add, Int.ofNat_lt, Int.ofNat_le, List.length_cons, List.length_nil, List.drop_zero, List.take_length] at *)
    all_goals first | ((try simp only [anyS_r, ratS_r, uniS_r, ordS_r, pickS_r, nextS_r, imGridS_r]); (first | exact ⟨100000, rfl⟩ | exact rawIn_adv (by assumption) ⟨100000, rfl⟩)) | ((repeat (first | apply pick_at | apply any_at | apply uni_at | apply ord_at | apply rat_at | apply next_at | apply imGrid_at)); exact AtOk.le (by assumption) (by first | decide | omega)) | omega | (show inI64 _; unfold inI64; omega) | (show 1 ≤ List.length _; simp; done) | (show _ * 32 ≤ 140737488355328; omega) | (show _ * 16 ≤ 140737488355328; omega) | with_reducible assumption | contradiction | exact unit_good_ (by assumption) | exact pk1 (by decide) (by decide) | exact pk2 (by decide) (by decide) | exact pk3 (by decide) (by decide) | exact pk4 (by decide) (by decide) | exact pk5 (by decide) (by decide) | skip
    apply some_end (ks := [.val .rat]) (rs := [.val .rat]) (_, ()) ()
    · repeat' (first | apply And.intro | exact True.intro | exact Lf.mk (by with_reducible rfl) | apply Lf.mk | with_reducible exact Eq.refl _)
    · exact trivial)
  exact ⟨fun x => (V (x, ())).1, fun x p0 => h1 (x, ()) trivial ⟨p0, trivial⟩, h3⟩
@[irreducible] noncomputable def mirwV : Rt → Rt := Classical.choose ex_spec_imMirror
theorem mirw_spec : (∀ (x : Rt), goodRt x = true → (True)) ∧ GSpec Tryz.prog ⟨215, [.val .rat], [.val .rat], fun ((x : Rt), _) => ⟨[goodRt x = true], (mirwV x, ()), ()⟩⟩ := by
  unfold mirwV
  exact (Classical.choose_spec ex_spec_imMirror)
theorem mirw_ok {x : Rt} (p0 : goodRt x = true) : True := mirw_spec.1 x p0
noncomputable def s_spec_imMirror : Sig := ⟨215, [.val .rat], [.val .rat], fun ((x : Rt), _) => ⟨[goodRt x = true], (mirwV x, ()), ()⟩⟩
theorem ok_spec_imMirror : GSpec Tryz.prog s_spec_imMirror := mirw_spec.2

set_option maxHeartbeats 1000000 in
theorem ex_cur_im : ∃ (V : Cur → List Pt) (S : Cur → Cur), (∀ (c : Cur), AtOk 320 c → (2 ≤ (V c).length ∧ (V c).length ≤ 62)) ∧ (∀ (c : Cur), Adv 320 c (S c)) ∧ GSpec Tryz.prog ⟨194, [.cell 93 .cur], [.list 107 .pt], fun ((c : Cur), _) => ⟨[AtOk 320 c], (V c, ()), (S c, ())⟩⟩ := by
  obtain ⟨V, S, h1, h2, h3⟩ := some_c (P := Tryz.prog) tab_ok fol ((((((Known.nil.cons ok_cur_among (by kernel_rfl)).cons ok_cur_imGrid (by kernel_rfl)).cons ok_cur_one (by kernel_rfl)).cons ok_cur_gridRat (by kernel_rfl)).cons ok_spec_raMake (by kernel_rfl)).cons ok_spec_raInt (by kernel_rfl)) (f := 194) (t := 93) (ks := []) (rs := [.list 107 .pt]) (by decide) Tryz.func194 320 (fun y => match y with | (_) => []) (fun y R => match y, R with | (_), ((v : List Pt), _) => 2 ≤ v.length ∧ v.length ≤ 62) (fun _ _ => rfl) (by
    rintro c ⟨⟩ hl hc hpre
    have hn := among_rng c (l := [1, 2, 2, 3, 4, 4, 6, 12, 100]) 1 100 (by decide) (by decide)
    have hA : AtOk 300 (pickS c 9) := pick_at (hc.le (by decide))
    have hg := imGrid_ok hA hn.1 hn.2
    repeat' (first | with_reducible apply andAll_cons | with_reducible apply andAll_nil | (with_reducible apply Cf.mk; kernel_rfl) | apply And.intro | intro _ | exact True.intro | apply Lf.mk)
    all_goals (try dsimp only at *)
    all_goals (try simp only [cur_eta, rt_eta_, List.length_cons, List.length_nil, Nat.zero_add, Nat.reduceAdd, Int.cast_ofNat_Int] at *)
    all_goals (try simp only [Bool.not_eq_true', Bool.not_eq_false', Bool.not_not, decide_eq_true_eq, decide_eq_false_iff_not, beq_iff_eq, bne_iff_ne, beq_eq_false_iff_ne, bne_eq_false_iff_eq, ne_eq, Bool.and_eq_true, Bool.and_eq_false_iff, Bool.or_eq_true, Bool.or_eq_false_iff, Int.toNat_natCast, Nat.zero_add, Int.ofNat_lt, Int.ofNat_le, List.length_cons, List.length_nil, List.drop_zero, List.take_length] at *)
    all_goals first | ((try simp only [anyS_r, ratS_r, uniS_r, ordS_r, pickS_r, nextS_r, imGridS_r]); (first | exact ⟨100000, rfl⟩ | exact rawIn_adv (by assumption) ⟨100000, rfl⟩)) | ((repeat (first | apply pick_at | apply any_at | apply uni_at | apply ord_at | apply rat_at | apply next_at | apply imGrid_at)); exact AtOk.le (by assumption) (by first | decide | omega)) | omega | (show inI64 _; unfold inI64; omega) | (show 1 ≤ List.length _; simp; done) | (show _ * 32 ≤ 140737488355328; omega) | (show _ * 16 ≤ 140737488355328; omega) | with_reducible assumption | contradiction | exact unit_good_ (by assumption) | exact pk1 (by decide) (by decide) | exact pk2 (by decide) (by decide) | exact pk3 (by decide) (by decide) | exact pk4 (by decide) (by decide) | exact pk5 (by decide) (by decide) | skip
    · have hk := among_rng (pickS (imGridS (pickS c 9) (amongV c [1, 2, 2, 3, 4, 4, 6, 12, 100])) 3) (l := [2, 2, 3, 4]) 2 4 (by decide) (by decide)
      generalize hkk : amongV (pickS (imGridS (pickS c 9) (amongV c [1, 2, 2, 3, 4, 4, 6, 12, 100])) 3) [2, 2, 3, 4] = k at *
      refine ⟨List Pt × Nat, fun x => ⟨[(6, .sc (.num .i64 x.2)), (4, .sc (.own 7777777))], [100000], [(7777777, .row 107 .pt x.1)]⟩, fun x => x.1.length = x.2 ∧ (x.2 : Int) ≤ k + 1, fun x => (k + 1).toNat - x.2, ?_, ?_⟩
      · apply start_go (([] : List Pt), 0)
        · repeat' (first | apply And.intro | exact True.intro | exact Lf.mk (by with_reducible rfl) | apply Lf.mk | with_reducible exact Eq.refl _)
          all_goals first | rfl | trace_state
        · dsimp only
          exact ⟨rfl, by omega⟩
      · rintro ⟨f, i⟩ ⟨k1, k2⟩
        dsimp only at k1 k2
        have hm := mod2_rng i
        repeat' (first | with_reducible apply andAll_cons | with_reducible apply andAll_nil | (with_reducible apply Cf.mk; kernel_rfl) | apply And.intro | intro _ | exact True.intro | apply Lf.mk)
        all_goals (try dsimp only at *)
        all_goals (try simp only [cur_eta, rt_eta_, List.length_cons, List.length_nil, Nat.zero_add, Nat.reduceAdd, Int.cast_ofNat_Int] at *)
        all_goals (try simp only [Bool.not_eq_true', Bool.not_eq_false', Bool.not_not, decide_eq_true_eq, decide_eq_false_iff_not, beq_iff_eq, bne_iff_ne, beq_eq_false_iff_ne, bne_eq_false_iff_eq, ne_eq, Bool.and_eq_true, Bool.and_eq_false_iff, Bool.or_eq_true, Bool.or_eq_false_iff, Int.toNat_natCast, Nat.zero_add, Int.ofNat_lt, Int.ofNat_le, List.length_cons, List.length_nil, List.drop_zero, List.take_length] at *)
        all_goals first | ((try simp only [anyS_r, ratS_r, uniS_r, ordS_r, pickS_r, nextS_r, imGridS_r]); (first | exact ⟨100000, rfl⟩ | exact rawIn_adv (by assumption) ⟨100000, rfl⟩)) | ((repeat (first | apply pick_at | apply any_at | apply uni_at | apply ord_at | apply rat_at | apply next_at | apply imGrid_at)); exact AtOk.le (by assumption) (by first | decide | omega)) | omega | (show inI64 _; unfold inI64; omega) | (show 1 ≤ List.length _; simp; done) | (show _ * 32 ≤ 140737488355328; omega) | (show _ * 16 ≤ 140737488355328; omega) | with_reducible assumption | contradiction | exact unit_good_ (by assumption) | exact pk1 (by decide) (by decide) | exact pk2 (by decide) (by decide) | exact pk3 (by decide) (by decide) | exact pk4 (by decide) (by decide) | exact pk5 (by decide) (by decide) | skip
        · apply round_go (_, i + 1)
          · repeat' (first | apply And.intro | exact True.intro | exact Lf.mk (by with_reducible rfl) | apply Lf.mk | with_reducible exact Eq.refl _)
            all_goals first | rfl | (rw [Int.natCast_add]; rfl)
          · dsimp only; omega
          · dsimp only
            exact ⟨by rw [List.length_append, k1]; rfl, by omega⟩
        · apply some_end (ks := [.cell 93 .cur]) (rs := [.list 107 .pt]) (_, ()) (_, ())
          · repeat' (first | apply And.intro | exact True.intro | exact Lf.mk (by with_reducible rfl) | apply Lf.mk | with_reducible exact Eq.refl _)
          · dsimp only
            exact ⟨by rw [List.length_set]; omega, by ((repeat (first | apply adv_pick | apply adv_any | apply adv_uni | apply adv_ord | apply adv_rat | apply adv_next | apply adv_imGrid)); (first | exact Adv.refl _ _ | exact Adv.le (by assumption) (by first | decide | omega)))⟩
        · apply some_end (ks := [.cell 93 .cur]) (rs := [.list 107 .pt]) (_, ()) (_, ())
          · repeat' (first | apply And.intro | exact True.intro | exact Lf.mk (by with_reducible rfl) | apply Lf.mk | with_reducible exact Eq.refl _)
          · dsimp only
            exact ⟨by omega, by ((repeat (first | apply adv_pick | apply adv_any | apply adv_uni | apply adv_ord | apply adv_rat | apply adv_next | apply adv_imGrid)); (first | exact Adv.refl _ _ | exact Adv.le (by assumption) (by first | decide | omega)))⟩
    · apply some_end (ks := [.cell 93 .cur]) (rs := [.list 107 .pt]) (_, ()) (_, ())
      · repeat' (first | apply And.intro | exact True.intro | exact Lf.mk (by with_reducible rfl) | apply Lf.mk | with_reducible exact Eq.refl _)
        all_goals trace_state
      · dsimp only
        exact ⟨hg, by ((repeat (first | apply adv_pick | apply adv_any | apply adv_uni | apply adv_ord | apply adv_rat | apply adv_next | apply adv_imGrid)); (first | exact Adv.refl _ _ | exact Adv.le (by assumption) (by first | decide | omega)))⟩)
  exact ⟨fun c => (V c ()).1, fun c => S c (), fun c hA => h1 c () trivial hA trivial, fun c => h2 c (), h3⟩
@[irreducible] noncomputable def imdV : Cur → List Pt := Classical.choose ex_cur_im
@[irreducible] noncomputable def imdS : Cur → Cur := Classical.choose (Classical.choose_spec ex_cur_im)
theorem imd_spec : (∀ (c : Cur), AtOk 320 c → (2 ≤ (imdV c).length ∧ (imdV c).length ≤ 62)) ∧ (∀ (c : Cur), Adv 320 c (imdS c)) ∧ GSpec Tryz.prog ⟨194, [.cell 93 .cur], [.list 107 .pt], fun ((c : Cur), _) => ⟨[AtOk 320 c], (imdV c, ()), (imdS c, ())⟩⟩ := by
  unfold imdV imdS
  exact (Classical.choose_spec (Classical.choose_spec ex_cur_im))
theorem imd_ok {c : Cur} (hA : AtOk 320 c) : 2 ≤ (imdV c).length ∧ (imdV c).length ≤ 62 := imd_spec.1 c hA
theorem imdS_r (c : Cur) : (imdS c).r = c.r := (imd_spec.2.1 c).r
theorem imd_at {m : Nat} {c : Cur} (h : AtOk (m + 320) c) : AtOk m (imdS c) := (imd_spec.2.1 c).at_ h
theorem adv_imd {k : Nat} {c d : Cur} (h : Adv k c d) : Adv (k + 320) c (imdS d) := h.trans (imd_spec.2.1 d) (Nat.le_refl _)
noncomputable def s_cur_im : Sig := ⟨194, [.cell 93 .cur], [.list 107 .pt], fun ((c : Cur), _) => ⟨[AtOk 320 c], (imdV c, ()), (imdS c, ())⟩⟩
theorem ok_cur_im : GSpec Tryz.prog s_cur_im := imd_spec.2.2

set_option maxHeartbeats 1000000 in
theorem ex_cur_anyIm : ∃ (V : Cur → List Pt) (S : Cur → Cur), (∀ (c : Cur), AtOk 400 c → ((V c).length ≤ 62)) ∧ (∀ (c : Cur), Adv 400 c (S c)) ∧ GSpec Tryz.prog ⟨124, [.cell 93 .cur], [.list 107 .pt], fun ((c : Cur), _) => ⟨[AtOk 400 c], (V c, ()), (S c, ())⟩⟩ := by
  obtain ⟨V, S, h1, h2, h3⟩ := some_c (P := Tryz.prog) tab_ok fol (((((Known.nil.cons ok_cur_im (by kernel_rfl)).cons ok_cur_pick (by kernel_rfl)).cons ok_cur_anyRat (by kernel_rfl)).cons ok_spec_raMake (by kernel_rfl)).cons ok_spec_raInt (by kernel_rfl)) (f := 124) (t := 93) (ks := []) (rs := [.list 107 .pt]) (by decide) Tryz.func124 400 (fun y => match y with | (_) => []) (fun y R => match y, R with | (_), ((v : List Pt), _) => v.length ≤ 62) (fun _ _ => rfl) (by
    rintro c ⟨⟩ hl hc hpre
    have hg := imd_ok (hc.le (by decide))
    have hp := pickV_lt (imdS c) (n := ((imdV c).length : Int)) (by omega)
    have hq := pickV_lt (pickS (pickS (imdS c) (imdV c).length) 36) (n := 50) (by omega)
    repeat' (first | with_reducible apply andAll_cons | with_reducible apply andAll_nil | (with_reducible apply Cf.mk; kernel_rfl) | apply And.intro | intro _ | exact True.intro | apply Lf.mk)
    all_goals (try dsimp only at *)
    all_goals (try simp only [cur_eta, rt_eta_, List.length_cons, List.length_nil, Nat.zero_add, Nat.reduceAdd, Int.cast_ofNat_Int] at *)
    all_goals (try simp only [Bool.not_eq_true', Bool.not_eq_false', Bool.not_not, decide_eq_true_eq, decide_eq_false_iff_not, beq_iff_eq, bne_iff_ne, beq_eq_false_iff_ne, bne_eq_false_iff_eq, ne_eq, Bool.and_eq_true, Bool.and_eq_false_iff, Bool.or_eq_true, Bool.or_eq_false_iff, Int.toNat_natCast, Nat.zero_add, Int.ofNat_lt, Int.ofNat_le, List.length_cons, List.length_nil, List.drop_zero, List.take_length] at *)
    all_goals first | ((try simp only [anyS_r, ratS_r, uniS_r, ordS_r, pickS_r, nextS_r, imGridS_r, imdS_r]); (first | exact ⟨100000, rfl⟩ | exact rawIn_adv (by assumption) ⟨100000, rfl⟩)) | ((repeat (first | apply pick_at | apply any_at | apply uni_at | apply ord_at | apply rat_at | apply next_at | apply imGrid_at | apply imd_at)); exact AtOk.le (by assumption) (by first | decide | omega)) | omega | (show inI64 _; unfold inI64; omega) | (show 1 ≤ List.length _; simp; done) | (show _ * 32 ≤ 140737488355328; omega) | (show _ * 16 ≤ 140737488355328; omega) | with_reducible assumption | contradiction | exact unit_good_ (by assumption) | exact pk1 (by decide) (by decide) | exact pk2 (by decide) (by decide) | exact pk3 (by decide) (by decide) | exact pk4 (by decide) (by decide) | exact pk5 (by decide) (by decide) | skip
    · apply some_end (ks := [.cell 93 .cur]) (rs := [.list 107 .pt]) (_, ()) (_, ())
      · repeat' (first | apply And.intro | exact True.intro | exact Lf.mk (by with_reducible rfl) | apply Lf.mk | with_reducible exact Eq.refl _)
      · dsimp only
        exact ⟨by rw [List.length_set]; omega, by ((repeat (first | apply adv_pick | apply adv_any | apply adv_uni | apply adv_ord | apply adv_rat | apply adv_next | apply adv_imGrid | apply adv_imd)); (first | exact Adv.refl _ _ | exact Adv.le (by assumption) (by first | decide | omega)))⟩
    · apply some_end (ks := [.cell 93 .cur]) (rs := [.list 107 .pt]) (_, ()) (_, ())
      · repeat' (first | apply And.intro | exact True.intro | exact Lf.mk (by with_reducible rfl) | apply Lf.mk | with_reducible exact Eq.refl _)
      · dsimp only
        exact ⟨by rw [List.length_set]; omega, by ((repeat (first | apply adv_pick | apply adv_any | apply adv_uni | apply adv_ord | apply adv_rat | apply adv_next | apply adv_imGrid | apply adv_imd)); (first | exact Adv.refl _ _ | exact Adv.le (by assumption) (by first | decide | omega)))⟩
    · apply some_end (ks := [.cell 93 .cur]) (rs := [.list 107 .pt]) (_, ()) (_, ())
      · repeat' (first | apply And.intro | exact True.intro | exact Lf.mk (by with_reducible rfl) | apply Lf.mk | with_reducible exact Eq.refl _)
      · dsimp only
        exact ⟨by rw [List.length_set]; omega, by ((repeat (first | apply adv_pick | apply adv_any | apply adv_uni | apply adv_ord | apply adv_rat | apply adv_next | apply adv_imGrid | apply adv_imd)); (first | exact Adv.refl _ _ | exact Adv.le (by assumption) (by first | decide | omega)))⟩
    · apply some_end (ks := [.cell 93 .cur]) (rs := [.list 107 .pt]) (_, ()) (_, ())
      · repeat' (first | apply And.intro | exact True.intro | exact Lf.mk (by with_reducible rfl) | apply Lf.mk | with_reducible exact Eq.refl _)
        all_goals first | rfl | omega | trace_state
      · dsimp only
        exact ⟨by rw [List.length_take]; omega, by ((repeat (first | apply adv_pick | apply adv_any | apply adv_uni | apply adv_ord | apply adv_rat | apply adv_next | apply adv_imGrid | apply adv_imd)); (first | exact Adv.refl _ _ | exact Adv.le (by assumption) (by first | decide | omega)))⟩
    · refine ⟨List Pt, fun f => ⟨[(3, .sc (.own 7777777))], [100000], [(7777777, .row 107 .pt f)]⟩, fun f => f.length ≤ 13, fun f => 13 - f.length, ?_, ?_⟩
      · apply start_go ([] : List Pt)
        · repeat' (first | apply And.intro | exact True.intro | exact Lf.mk (by with_reducible rfl) | apply Lf.mk | with_reducible exact Eq.refl _)
          all_goals first | rfl | trace_state
        · exact Nat.zero_le _
      · intro f k1
        repeat' (first | with_reducible apply andAll_cons | with_reducible apply andAll_nil | (with_reducible apply Cf.mk; kernel_rfl) | apply And.intro | intro _ | exact True.intro | apply Lf.mk)
        all_goals (try dsimp only at *)
        all_goals (try simp only [cur_eta, rt_eta_, List.length_cons, List.length_nil, Nat.zero_add, Nat.reduceAdd, Int.cast_ofNat_Int] at *)
        all_goals (try simp only [Bool.not_eq_true', Bool.not_eq_false', Bool.not_not, decide_eq_true_eq, decide_eq_false_iff_not, beq_iff_eq, bne_iff_ne, beq_eq_false_iff_ne, bne_eq_false_iff_eq, ne_eq, Bool.and_eq_true, Bool.and_eq_false_iff, Bool.or_eq_true, Bool.or_eq_false_iff, Int.toNat_natCast, Nat.zero_add, Int.ofNat_lt, Int.ofNat_le, List.length_cons, List.length_nil, List.drop_zero, List.take_length] at *)
        all_goals first | ((try simp only [anyS_r, ratS_r, uniS_r, ordS_r, pickS_r, nextS_r, imGridS_r, imdS_r]); (first | exact ⟨100000, rfl⟩ | exact rawIn_adv (by assumption) ⟨100000, rfl⟩)) | ((repeat (first | apply pick_at | apply any_at | apply uni_at | apply ord_at | apply rat_at | apply next_at | apply imGrid_at | apply imd_at)); exact AtOk.le (by assumption) (by first | decide | omega)) | omega | (show inI64 _; unfold inI64; omega) | (show 1 ≤ List.length _; simp; done) | (show _ * 32 ≤ 140737488355328; omega) | (show _ * 16 ≤ 140737488355328; omega) | with_reducible assumption | contradiction | exact unit_good_ (by assumption) | exact pk1 (by decide) (by decide) | exact pk2 (by decide) (by decide) | exact pk3 (by decide) (by decide) | exact pk4 (by decide) (by decide) | exact pk5 (by decide) (by decide) | skip
        · apply round_go _
          · repeat' (first | apply And.intro | exact True.intro | exact Lf.mk (by with_reducible rfl) | apply Lf.mk | with_reducible exact Eq.refl _)
            all_goals first | rfl | trace_state
          · rw [List.length_append, List.length_cons, List.length_nil]; omega
          · rw [List.length_append, List.length_cons, List.length_nil]; omega
        · apply some_end (ks := [.cell 93 .cur]) (rs := [.list 107 .pt]) (_, ()) (_, ())
          · repeat' (first | apply And.intro | exact True.intro | exact Lf.mk (by with_reducible rfl) | apply Lf.mk | with_reducible exact Eq.refl _)
          · dsimp only
            exact ⟨by omega, by ((repeat (first | apply adv_pick | apply adv_any | apply adv_uni | apply adv_ord | apply adv_rat | apply adv_next | apply adv_imGrid | apply adv_imd)); (first | exact Adv.refl _ _ | exact Adv.le (by assumption) (by first | decide | omega)))⟩
    · apply some_end (ks := [.cell 93 .cur]) (rs := [.list 107 .pt]) (_, ()) (_, ())
      · repeat' (first | apply And.intro | exact True.intro | exact Lf.mk (by with_reducible rfl) | apply Lf.mk | with_reducible exact Eq.refl _)
      · dsimp only
        exact ⟨by omega, by ((repeat (first | apply adv_pick | apply adv_any | apply adv_uni | apply adv_ord | apply adv_rat | apply adv_next | apply adv_imGrid | apply adv_imd)); (first | exact Adv.refl _ _ | exact Adv.le (by assumption) (by first | decide | omega)))⟩)
  exact ⟨fun c => (V c ()).1, fun c => S c (), fun c hA => h1 c () trivial hA trivial, fun c => h2 c (), h3⟩
@[irreducible] noncomputable def anyImV : Cur → List Pt := Classical.choose ex_cur_anyIm
@[irreducible] noncomputable def anyImS : Cur → Cur := Classical.choose (Classical.choose_spec ex_cur_anyIm)
theorem anyIm_spec : (∀ (c : Cur), AtOk 400 c → ((anyImV c).length ≤ 62)) ∧ (∀ (c : Cur), Adv 400 c (anyImS c)) ∧ GSpec Tryz.prog ⟨124, [.cell 93 .cur], [.list 107 .pt], fun ((c : Cur), _) => ⟨[AtOk 400 c], (anyImV c, ()), (anyImS c, ())⟩⟩ := by
  unfold anyImV anyImS
  exact (Classical.choose_spec (Classical.choose_spec ex_cur_anyIm))
theorem anyIm_ok {c : Cur} (hA : AtOk 400 c) : (anyImV c).length ≤ 62 := anyIm_spec.1 c hA
theorem anyImS_r (c : Cur) : (anyImS c).r = c.r := (anyIm_spec.2.1 c).r
theorem anyIm_at {m : Nat} {c : Cur} (h : AtOk (m + 400) c) : AtOk m (anyImS c) := (anyIm_spec.2.1 c).at_ h
theorem adv_anyIm {k : Nat} {c d : Cur} (h : Adv k c d) : Adv (k + 400) c (anyImS d) := h.trans (anyIm_spec.2.1 d) (Nat.le_refl _)
noncomputable def s_cur_anyIm : Sig := ⟨124, [.cell 93 .cur], [.list 107 .pt], fun ((c : Cur), _) => ⟨[AtOk 400 c], (anyImV c, ()), (anyImS c, ())⟩⟩
theorem ok_cur_anyIm : GSpec Tryz.prog s_cur_anyIm := anyIm_spec.2.2

set_option maxHeartbeats 1000000 in
theorem ex_cur_xOf : ∃ (V : Cur → List Pt → Rt) (S : Cur → List Pt → Cur), (∀ (c : Cur) (f : List Pt), f.length ≤ 9223372036854775807 → AtOk 40 c → (True)) ∧ (∀ (c : Cur) (f : List Pt), Adv 40 c (S c f)) ∧ GSpec Tryz.prog ⟨117, [.cell 93 .cur, .list .pt], [.val .rat], fun ((c : Cur), (f : List Pt), _) => ⟨[AtOk 40 c], (V c f, ()), (S c f, ())⟩⟩ := by
  obtain ⟨V, S, h1, h2, h3⟩ := some_c (P := Tryz.prog) tab_ok fol (((((Known.nil.cons ok_cur_pick (by kernel_rfl)).cons ok_cur_gridRat (by kernel_rfl)).cons ok_cur_among (by kernel_rfl)).cons ok_cur_unitRat (by kernel_rfl)).cons ok_cur_anyRat (by kernel_rfl)) (f := 117) (t := 93) (ks := [.list .pt]) (rs := [.val .rat]) (by decide) Tryz.func117 40 (fun y => match y with | ((f : List Pt), _) => []) (fun y R => match y, R with | ((f : List Pt), _), ((v : Rt), _) => True) (fun _ _ => rfl) (by
    rintro c ⟨(f : List Pt), ⟨⟩⟩ hl hc hpre
    obtain ⟨hl, _⟩ := hl
    have hl : f.length ≤ 9223372036854775807 := hl
    have hp : 0 < f.length → 0 ≤ pickV (pickS c 8) (f.length : Int) ∧ pickV (pickS c 8) (f.length : Int) < (f.length : Int) := fun h => pickV_lt (pickS c 8) (by omega)
    have hn := among_rng (pickS c 8) (l := [2, 3, 4, 5, 7, 12]) 2 12 (by decide) (by decide)
    repeat' (first | with_reducible apply andAll_cons | with_reducible apply andAll_nil | (with_reducible apply Cf.mk; kernel_rfl) | apply And.intro | intro _ | exact True.intro | apply Lf.mk)
    all_goals (try dsimp only at *)
    all_goals (try simp only [cur_eta, rt_eta_, List.length_cons, List.length_nil, Nat.zero_add, Nat.reduceAdd, Int.cast_ofNat_Int] at *)
    all_goals (try simp only [Bool.not_eq_true', Bool.not_eq_false', Bool.not_not, decide_eq_true_eq, decide_eq_false_iff_not, beq_iff_eq, bne_iff_ne, beq_eq_false_iff_ne, bne_eq_false_iff_eq, ne_eq, Bool.and_eq_true, Bool.and_eq_false_iff, Bool.or_eq_true, Bool.or_eq_false_iff, Int.toNat_natCast, Nat.zero_add, Int.ofNat_lt, Int.ofNat_le, List.length_cons, List.length_nil, List.drop_zero, List.take_length] at *)
    all_goals first | ((try simp only [anyS_r, ratS_r, uniS_r, ordS_r, pickS_r, nextS_r, imGridS_r, imdS_r, anyImS_r]); (first | exact ⟨100000, rfl⟩ | exact rawIn_adv (by assumption) ⟨100000, rfl⟩)) | ((repeat (first | apply pick_at | apply any_at | apply uni_at | apply ord_at | apply rat_at | apply next_at | apply imGrid_at | apply imd_at | apply anyIm_at)); exact AtOk.le (by assumption) (by first | decide | omega)) | omega | (show inI64 _; unfold inI64; omega) | (show 1 ≤ List.length _; simp; done) | (show _ * 32 ≤ 140737488355328; omega) | (show _ * 16 ≤ 140737488355328; omega) | with_reducible assumption | contradiction | exact unit_good_ (by assumption) | exact pk1 (by decide) (by decide) | exact pk2 (by decide) (by decide) | exact pk3 (by decide) (by decide) | exact pk4 (by decide) (by decide) | exact pk5 (by decide) (by decide) | skip
    all_goals (apply some_end (ks := [.cell 93 .cur, .list .pt]) (rs := [.val .rat]) (_, ()) (_, ()); (case h => ((repeat' (first | apply And.intro | exact True.intro | exact Lf.mk (by with_reducible rfl) | apply Lf.mk | with_reducible exact Eq.refl _)); all_goals (first | rfl | omega | skip))); (case q => ((try dsimp only); refine ⟨?_, by ((repeat (first | apply adv_pick | apply adv_any | apply adv_uni | apply adv_ord | apply adv_rat | apply adv_next | apply adv_imGrid | apply adv_imd | apply adv_anyIm)); (first | exact Adv.refl _ _ | exact Adv.le (by assumption) (by first | decide | omega)))⟩; (first | exact trivial | omega | (rw [List.length_set]; omega) | (rw [List.length_take]; omega) | (simp only [List.length_cons, List.length_nil]; omega) | (simp; done) | skip)))))
  exact ⟨fun c f => (V c (f, ())).1, fun c f => S c (f, ()), fun c f q0 hA => h1 c (f, ()) ⟨q0, trivial⟩ hA trivial, fun c f => h2 c (f, ()), h3⟩
@[irreducible] noncomputable def xofV : Cur → List Pt → Rt := Classical.choose ex_cur_xOf
@[irreducible] noncomputable def xofS : Cur → List Pt → Cur := Classical.choose (Classical.choose_spec ex_cur_xOf)
theorem xof_spec : (∀ (c : Cur) (f : List Pt), f.length ≤ 9223372036854775807 → AtOk 40 c → (True)) ∧ (∀ (c : Cur) (f : List Pt), Adv 40 c (xofS c f)) ∧ GSpec Tryz.prog ⟨117, [.cell 93 .cur, .list .pt], [.val .rat], fun ((c : Cur), (f : List Pt), _) => ⟨[AtOk 40 c], (xofV c f, ()), (xofS c f, ())⟩⟩ := by
  unfold xofV xofS
  exact (Classical.choose_spec (Classical.choose_spec ex_cur_xOf))
theorem xof_ok {c : Cur} {f : List Pt} (q0 : f.length ≤ 9223372036854775807) (hA : AtOk 40 c) : True := xof_spec.1 c f q0 hA
theorem xofS_r (c : Cur) (f : List Pt) : (xofS c f).r = c.r := (xof_spec.2.1 c f).r
theorem xof_at {m : Nat} {c : Cur} {f : List Pt} (h : AtOk (m + 40) c) : AtOk m (xofS c f) := (xof_spec.2.1 c f).at_ h
theorem adv_xof {k : Nat} {c d : Cur} {f : List Pt} (h : Adv k c d) : Adv (k + 40) c (xofS d f) := h.trans (xof_spec.2.1 d f) (Nat.le_refl _)
noncomputable def s_cur_xOf : Sig := ⟨117, [.cell 93 .cur, .list .pt], [.val .rat], fun ((c : Cur), (f : List Pt), _) => ⟨[AtOk 40 c], (xofV c f, ()), (xofS c f, ())⟩⟩
theorem ok_cur_xOf : GSpec Tryz.prog s_cur_xOf := xof_spec.2.2

set_option maxHeartbeats 1000000 in
theorem ex_cur_intervalOf : ∃ (V : Cur → List Pt → Iv) (S : Cur → List Pt → Cur), (∀ (c : Cur) (f : List Pt), f.length ≤ 9223372036854775807 → AtOk 100 c → (True)) ∧ (∀ (c : Cur) (f : List Pt), Adv 100 c (S c f)) ∧ GSpec Tryz.prog ⟨155, [.cell 93 .cur, .list .pt], [.val .iv], fun ((c : Cur), (f : List Pt), _) => ⟨[AtOk 100 c], (V c f, ()), (S c f, ())⟩⟩ := by
  obtain ⟨V, S, h1, h2, h3⟩ := some_c (P := Tryz.prog) tab_ok fol (((((((Known.nil.cons ok_cur_xOf (by kernel_rfl)).cons ok_cur_one (by kernel_rfl)).cons ok_spec_raUnit (by kernel_rfl)).cons ok_spec_raCmp (by kernel_rfl)).cons ok_spec_raInt (by kernel_rfl)).cons ok_spec_ivLess (by kernel_rfl)).cons ok_spec_ivGreater (by kernel_rfl)) (f := 155) (t := 93) (ks := [.list .pt]) (rs := [.val .iv]) (by decide) Tryz.func155 100 (fun y => match y with | ((f : List Pt), _) => []) (fun y R => match y, R with | ((f : List Pt), _), ((v : Iv), _) => True) (fun _ _ => rfl) (by
    rintro c ⟨(f : List Pt), ⟨⟩⟩ hl hc hpre
    obtain ⟨hl, _⟩ := hl
    have hl : f.length ≤ 9223372036854775807 := hl
    repeat' (first | with_reducible apply andAll_cons | with_reducible apply andAll_nil | (with_reducible apply Cf.mk; kernel_rfl) | apply And.intro | intro _ | exact True.intro | apply Lf.mk)
    all_goals (try dsimp only at *)
    all_goals (try simp only [cur_eta, rt_eta_, List.length_cons, List.length_nil, Nat.zero_add, Nat.reduceAdd, Int.cast_ofNat_Int] at *)
    all_goals (try simp only [Bool.not_eq_true', Bool.not_eq_false', Bool.not_not, decide_eq_true_eq, decide_eq_false_iff_not, beq_iff_eq, bne_iff_ne, beq_eq_false_iff_ne, bne_eq_false_iff_eq, ne_eq, Bool.and_eq_true, Bool.and_eq_false_iff, Bool.or_eq_true, Bool.or_eq_false_iff, Int.toNat_natCast, Nat.zero_add, Int.ofNat_lt, Int.ofNat_le, List.length_cons, List.length_nil, List.drop_zero, List.take_length] at *)
    all_goals first | ((try simp only [anyS_r, ratS_r, uniS_r, ordS_r, pickS_r, nextS_r, imGridS_r, imdS_r, anyImS_r, xofS_r]); (first | exact ⟨100000, rfl⟩ | exact rawIn_adv (by assumption) ⟨100000, rfl⟩)) | ((repeat (first | apply pick_at | apply any_at | apply uni_at | apply ord_at | apply rat_at | apply next_at | apply imGrid_at | apply imd_at | apply anyIm_at | apply xof_at)); exact AtOk.le (by assumption) (by first | decide | omega)) | omega | (show inI64 _; unfold inI64; omega) | (show 1 ≤ List.length _; simp; done) | (show _ * 32 ≤ 140737488355328; omega) | (show _ * 16 ≤ 140737488355328; omega) | with_reducible assumption | contradiction | exact unit_good_ (by assumption) | exact pk1 (by decide) (by decide) | exact pk2 (by decide) (by decide) | exact pk3 (by decide) (by decide) | exact pk4 (by decide) (by decide) | exact pk5 (by decide) (by decide) | skip
    all_goals (apply some_end (ks := [.cell 93 .cur, .list .pt]) (rs := [.val .iv]) (_, ()) (_, ()); (case h => ((repeat' (first | apply And.intro | exact True.intro | exact Lf.mk (by with_reducible rfl) | apply Lf.mk | with_reducible exact Eq.refl _)); all_goals (first | rfl | omega | skip))); (case q => ((try dsimp only); refine ⟨?_, by ((repeat (first | apply adv_pick | apply adv_any | apply adv_uni | apply adv_ord | apply adv_rat | apply adv_next | apply adv_imGrid | apply adv_imd | apply adv_anyIm | apply adv_xof)); (first | exact Adv.refl _ _ | exact Adv.le (by assumption) (by first | decide | omega)))⟩; (first | exact trivial | omega | (rw [List.length_set]; omega) | (rw [List.length_take]; omega) | (simp only [List.length_cons, List.length_nil]; omega) | (simp; done) | skip)))))
  exact ⟨fun c f => (V c (f, ())).1, fun c f => S c (f, ()), fun c f q0 hA => h1 c (f, ()) ⟨q0, trivial⟩ hA trivial, fun c f => h2 c (f, ()), h3⟩
@[irreducible] noncomputable def ivofV : Cur → List Pt → Iv := Classical.choose ex_cur_intervalOf
@[irreducible] noncomputable def ivofS : Cur → List Pt → Cur := Classical.choose (Classical.choose_spec ex_cur_intervalOf)
theorem ivof_spec : (∀ (c : Cur) (f : List Pt), f.length ≤ 9223372036854775807 → AtOk 100 c → (True)) ∧ (∀ (c : Cur) (f : List Pt), Adv 100 c (ivofS c f)) ∧ GSpec Tryz.prog ⟨155, [.cell 93 .cur, .list .pt], [.val .iv], fun ((c : Cur), (f : List Pt), _) => ⟨[AtOk 100 c], (ivofV c f, ()), (ivofS c f, ())⟩⟩ := by
  unfold ivofV ivofS
  exact (Classical.choose_spec (Classical.choose_spec ex_cur_intervalOf))
theorem ivof_ok {c : Cur} {f : List Pt} (q0 : f.length ≤ 9223372036854775807) (hA : AtOk 100 c) : True := ivof_spec.1 c f q0 hA
theorem ivofS_r (c : Cur) (f : List Pt) : (ivofS c f).r = c.r := (ivof_spec.2.1 c f).r
theorem ivof_at {m : Nat} {c : Cur} {f : List Pt} (h : AtOk (m + 100) c) : AtOk m (ivofS c f) := (ivof_spec.2.1 c f).at_ h
theorem adv_ivof {k : Nat} {c d : Cur} {f : List Pt} (h : Adv k c d) : Adv (k + 100) c (ivofS d f) := h.trans (ivof_spec.2.1 d f) (Nat.le_refl _)
noncomputable def s_cur_intervalOf : Sig := ⟨155, [.cell 93 .cur, .list .pt], [.val .iv], fun ((c : Cur), (f : List Pt), _) => ⟨[AtOk 100 c], (ivofV c f, ()), (ivofS c f, ())⟩⟩
theorem ok_cur_intervalOf : GSpec Tryz.prog s_cur_intervalOf := ivof_spec.2.2

end Go.Vx
