/- What is drawn: stairs, lifts. -/
import Derived.Test.YtalgocopemmelaaGreatDoorVxWd
import Derived.Test.YtalgocopemmelaaGreatDoorVxMapB
import Derived.Test.YtalgocopemmelaaGreatDoorVxCp
import Derived.Test.YtalgocopemmelaaGreatDoorVxLf
namespace Go.Vx
open Go Go.Proofs
set_option maxRecDepth 100000
set_option linter.unusedSimpArgs false
set_option linter.unusedVariables false

theorem griV_good {c : Cur} {n : Int} (h : 1 ≤ n) (h2 : n ≤ 100000) : goodRt (griV c n) = true := by
  have h3 := pickV_lt c (n := n + 1) (by omega)
  unfold griV
  exact lowRt_good1 (low_small (by omega) (by omega) (by omega))
theorem griV_bd {c : Cur} {n : Int} (h : 1 ≤ n) (h2 : n ≤ 100000) : (-n ≤ (griV c n).num ∧ (griV c n).num ≤ n) ∧ 1 ≤ (griV c n).den ∧ (griV c n).den ≤ n := by
  have h3 := pickV_lt c (n := n + 1) (by omega)
  have h4 := goodRt_iff.1 (griV_good (c := c) h h2)
  unfold griV at h4 ⊢
  have h5 := low_bd (n := pickV c (n + 1)) (d := n) (low_small (by omega) (by omega) (by omega))
  omega
theorem plus_good {r : Rt} {k : Int} (h : goodRt r = true) (hb : -1000000000 ≤ r.num + k * r.den ∧ r.num + k * r.den ≤ 1000000000) : goodRt ⟨r.num + k * r.den, r.den⟩ = true := by
  have h2 := goodRt_iff.1 h
  rw [goodRt_iff]
  refine ⟨h2.1, h2.2.1, hb.1, hb.2, ?_⟩
  show (Int.gcd (r.num + k * r.den) r.den : Int) = 1
  rw [← h2.2.2.2.2]
  simp
theorem add_gd {a b : Rt} (ha : goodRt a = true) (hb : goodRt b = true) (h1 : -1000 ≤ a.num ∧ a.num ≤ 1000) (h2 : a.den ≤ 100) (h3 : -1000 ≤ b.num ∧ b.num ≤ 1000) (h4 : b.den ≤ 100) : goodRt (addRt a b).1 = true := by
  have g1 := goodRt_iff.1 ha
  have g2 := goodRt_iff.1 hb
  have e1 : 0 < a.den * b.den := Int.mul_pos (by omega) (by omega)
  have e2 : a.den * b.den ≤ 100 * 100 := Int.mul_le_mul h2 h4 (by omega) (by omega)
  have e3 : a.num * b.den ≤ 1000 * 100 := Int.le_trans (Int.mul_le_mul_of_nonneg_right h1.2 (by omega)) (Int.mul_le_mul_of_nonneg_left h4 (by omega))
  have e4 : b.num * a.den ≤ 1000 * 100 := Int.le_trans (Int.mul_le_mul_of_nonneg_right h3.2 (by omega)) (Int.mul_le_mul_of_nonneg_left h2 (by omega))
  have e5 : -1000 * b.den ≤ a.num * b.den := Int.mul_le_mul_of_nonneg_right h1.1 (by omega)
  have e6 : -1000 * a.den ≤ b.num * a.den := Int.mul_le_mul_of_nonneg_right h3.1 (by omega)
  unfold addRt
  exact lowRt_good1 (low_small e1 (by omega) (by omega))

set_option maxHeartbeats 1000000 in
theorem ex_cur_familySize : ∃ (V : Cur → Int) (S : Cur → Cur), (∀ (c : Cur), AtOk 20 c → (0 ≤ (V c) ∧ (V c) ≤ 21)) ∧ (∀ (c : Cur), Adv 20 c (S c)) ∧ GSpec Tryz.prog ⟨40, [.cell 56 .cur], [.val NI], fun ((c : Cur), _) => ⟨[AtOk 20 c], (V c, ()), (S c, ())⟩⟩ := by
  obtain ⟨V, S, h1, h2, h3⟩ := some_c (P := Tryz.prog) tab_ok fol (Known.nil.cons ok_cur_among (by kernel_rfl)) (f := 40) (t := 56) (ks := []) (rs := [.val NI]) (by decide) Tryz.func40 20 (fun y => match y with | (_) => []) (fun y R => match y, R with | (_), ((v : Int), _) => 0 ≤ v ∧ v ≤ 21) (fun _ _ => rfl) (by
    rintro c ⟨⟩ hl hc hpre
    have h1 := among_rng c (l := [0, 21]) 0 21 (by decide) (by decide)
    have h2 : ∀ (d : Cur) (z : Int), 0 ≤ z ∧ z ≤ 21 → 0 ≤ amongV d [1, 2, 3, 4, 6, 20, z] ∧ amongV d [1, 2, 3, 4, 6, 20, z] ≤ 21 := fun d z hz => among_rng d 0 21 (by simp; omega) (by simp)
    have h3 := h2 (pickS c 2) _ h1
    repeat' (first | with_reducible apply andAll_cons | with_reducible apply andAll_nil | (with_reducible apply Cf.mk; kernel_rfl) | apply And.intro | intro _ | exact True.intro | apply Lf.mk)
    all_goals (try dsimp only at *)
    all_goals (try simp only [cur_eta, rt_eta_, List.length_cons, List.length_nil, Nat.zero_add, Nat.reduceAdd, Int.cast_ofNat_Int] at *)
    all_goals (try simp only [Bool.not_eq_true', Bool.not_eq_false', Bool.not_not, decide_eq_true_eq, decide_eq_false_iff_not, beq_iff_eq, bne_iff_ne, beq_eq_false_iff_ne, bne_eq_false_iff_eq, ne_eq, Bool.and_eq_true, Bool.and_eq_false_iff, Bool.or_eq_true, Bool.or_eq_false_iff, Int.toNat_natCast, Nat.zero_add, Int.ofNat_lt, Int.ofNat_le, List.length_cons, List.length_nil, List.drop_zero, List.take_length] at *)
    all_goals first | ((try simp only [anyS_r, ratS_r, uniS_r, ordS_r, pickS_r, nextS_r]); (first | exact ⟨100000, rfl⟩ | exact rawIn_adv (by assumption) ⟨100000, rfl⟩)) | ((repeat (first | apply pick_at | apply any_at | apply uni_at | apply ord_at | apply rat_at | apply next_at)); exact AtOk.le (by assumption) (by first | decide | omega)) | omega | (show inI64 _; unfold inI64; omega) | (show 1 ≤ List.length _; simp; done) | (show _ * 32 ≤ 140737488355328; omega) | (show _ * 16 ≤ 140737488355328; omega) | with_reducible assumption | contradiction | exact unit_good_ (by assumption) | exact pk1 (by decide) (by decide) | exact pk2 (by decide) (by decide) | exact pk3 (by decide) (by decide) | exact pk4 (by decide) (by decide) | exact pk5 (by decide) (by decide) | skip
    apply some_end (ks := [.cell 56 .cur]) (rs := [.val NI]) (_, ()) (_, ())
    · repeat' (first | apply And.intro | exact True.intro | exact Lf.mk (by with_reducible rfl) | apply Lf.mk | with_reducible exact Eq.refl _)
      all_goals trace_state
    · dsimp only
      exact ⟨h3, by ((repeat (first | apply adv_pick | apply adv_any | apply adv_uni | apply adv_ord | apply adv_rat | apply adv_next)); (first | exact Adv.refl _ _ | exact Adv.le (by assumption) (by first | decide | omega)))⟩)
  exact ⟨fun c => (V c ()).1, fun c => S c (), fun c hA => h1 c () trivial hA trivial, fun c => h2 c (), h3⟩
@[irreducible] noncomputable def famzV : Cur → Int := Classical.choose ex_cur_familySize
@[irreducible] noncomputable def famzS : Cur → Cur := Classical.choose (Classical.choose_spec ex_cur_familySize)
theorem famz_spec : (∀ (c : Cur), AtOk 20 c → (0 ≤ (famzV c) ∧ (famzV c) ≤ 21)) ∧ (∀ (c : Cur), Adv 20 c (famzS c)) ∧ GSpec Tryz.prog ⟨40, [.cell 56 .cur], [.val NI], fun ((c : Cur), _) => ⟨[AtOk 20 c], (famzV c, ()), (famzS c, ())⟩⟩ := by
  unfold famzV famzS
  exact (Classical.choose_spec (Classical.choose_spec ex_cur_familySize))
theorem famz_ok {c : Cur} (hA : AtOk 20 c) : 0 ≤ (famzV c) ∧ (famzV c) ≤ 21 := famz_spec.1 c hA
theorem famzS_r (c : Cur) : (famzS c).r = c.r := (famz_spec.2.1 c).r
theorem famz_at {m : Nat} {c : Cur} (h : AtOk (m + 20) c) : AtOk m (famzS c) := (famz_spec.2.1 c).at_ h
theorem adv_famz {k : Nat} {c d : Cur} (h : Adv k c d) : Adv (k + 20) c (famzS d) := h.trans (famz_spec.2.1 d) (Nat.le_refl _)
noncomputable def s_cur_familySize : Sig := ⟨40, [.cell 56 .cur], [.val NI], fun ((c : Cur), _) => ⟨[AtOk 20 c], (famzV c, ()), (famzS c, ())⟩⟩
theorem ok_cur_familySize : GSpec Tryz.prog s_cur_familySize := famz_spec.2.2

set_option maxHeartbeats 1000000 in
theorem ex_cur_stair : ∃ (V : Cur → List Rt) (S : Cur → Cur), (∀ (c : Cur), AtOk 200 c → ((V c).length ≤ 22)) ∧ (∀ (c : Cur), Adv 200 c (S c)) ∧ GSpec Tryz.prog ⟨25, [.cell 56 .cur], [.list 30 .rat], fun ((c : Cur), _) => ⟨[AtOk 200 c], (V c, ()), (S c, ())⟩⟩ := by
  obtain ⟨V, S, h1, h2, h3⟩ := some_c (P := Tryz.prog) tab_ok fol ((((((Known.nil.cons ok_cur_pick (by kernel_rfl)).cons ok_cur_one (by kernel_rfl)).cons ok_cur_among (by kernel_rfl)).cons ok_cur_gridRat (by kernel_rfl)).cons ok_cur_anyRat (by kernel_rfl)).cons ok_spec_raCmp (by kernel_rfl)) (f := 25) (t := 56) (ks := []) (rs := [.list 30 .rat]) (by decide) Tryz.func25 200 (fun y => match y with | (_) => []) (fun y R => match y, R with | (_), ((v : List Rt), _) => v.length ≤ 22) (fun _ _ => rfl) (by
    rintro c ⟨⟩ hl hc hpre
    have v8 := pickV_lt c (n := 8) (by omega)
    have hm := among_rng (pickS (pickS c 8) 12) (l := [0, 21, 22]) 0 22 (by decide) (by decide)
    have hp : ∀ (d : Cur) (n : Int), 1 ≤ n → 0 ≤ pickV d n ∧ pickV d n < n := fun d n h => pickV_lt d h
    repeat' (first | with_reducible apply andAll_cons | with_reducible apply andAll_nil | (with_reducible apply Cf.mk; kernel_rfl) | apply And.intro | intro _ | exact True.intro | apply Lf.mk)
    all_goals (try dsimp only at *)
    all_goals (try simp only [cur_eta, rt_eta_, List.length_cons, List.length_nil, Nat.zero_add, Nat.reduceAdd, Int.cast_ofNat_Int] at *)
    all_goals (try simp only [Bool.not_eq_true', Bool.not_eq_false', Bool.not_not, decide_eq_true_eq, decide_eq_false_iff_not, beq_iff_eq, bne_iff_ne, beq_eq_false_iff_ne, bne_eq_false_iff_eq, ne_eq, Bool.and_eq_true, Bool.and_eq_false_iff, Bool.or_eq_true, Bool.or_eq_false_iff, Int.toNat_natCast, Nat.zero_add, Int.ofNat_lt, Int.ofNat_le, List.length_cons, List.length_nil, List.drop_zero, List.take_length] at *)
    all_goals first | ((try simp only [anyS_r, ratS_r, uniS_r, ordS_r, pickS_r, nextS_r, famzS_r]); (first | exact ⟨100000, rfl⟩ | exact rawIn_adv (by assumption) ⟨100000, rfl⟩)) | ((repeat (first | apply pick_at | apply any_at | apply uni_at | apply ord_at | apply rat_at | apply next_at | apply famz_at)); exact AtOk.le (by assumption) (by first | decide | omega)) | omega | (show inI64 _; unfold inI64; omega) | (show 1 ≤ List.length _; simp; done) | (show _ * 32 ≤ 140737488355328; omega) | (show _ * 16 ≤ 140737488355328; omega) | with_reducible assumption | contradiction | exact unit_good_ (by assumption) | exact pk1 (by decide) (by decide) | exact pk2 (by decide) (by decide) | exact pk3 (by decide) (by decide) | exact pk4 (by decide) (by decide) | exact pk5 (by decide) (by decide) | skip
    all_goals (
      refine ⟨Cur × List Rt × Rt, fun x => ⟨[(3, .sc (.own 7777777))], [], [(7777777, .row 30 .rat x.2.1), (5, .box 30 [.num .i64 x.2.2.num, .num .i64 x.2.2.den]), (100000, cuB x.1)]⟩, fun x => Adv (10 + 6 * x.2.1.length) c x.1 ∧ x.2.1.length ≤ 22 ∧ goodRt x.2.2 = true, fun x => 22 - x.2.1.length, ?_, ?_⟩
      · apply start_go (_, ([] : List Rt), _)
        case hf =>
          repeat' (first | apply And.intro | exact True.intro | exact Lf.mk (by with_reducible rfl) | apply Lf.mk | with_reducible exact Eq.refl _)
          all_goals first | rfl | skip
        case h =>
          dsimp only
          refine ⟨?_, ?_, ?_⟩
          · ((repeat (first | apply adv_pick | apply adv_any | apply adv_uni | apply adv_ord | apply adv_rat | apply adv_next | apply adv_famz)); (first | exact Adv.refl _ _ | exact Adv.le (by assumption) (by first | decide | omega)))
          · exact Nat.zero_le _
          · exact griV_good (by omega) (by omega)
      · rintro ⟨d, l, x⟩ ⟨g1, g2, g3⟩
        dsimp only at g1 g2 g3
        have hd : AtOk 50 d := Adv.at_ g1 (hc.le (by omega))
        have gg : ∀ (e : Cur), goodRt (griV e 6) = true := fun e => griV_good (by omega) (by omega)
        repeat' (first | with_reducible apply andAll_cons | with_reducible apply andAll_nil | (with_reducible apply Cf.mk; kernel_rfl) | apply And.intro | intro _ | exact True.intro | apply Lf.mk)
        all_goals (try dsimp only at *)
        all_goals (try simp only [cur_eta, rt_eta_, List.length_cons, List.length_nil, Nat.zero_add, Nat.reduceAdd, Int.cast_ofNat_Int] at *)
        all_goals (try simp only [Bool.not_eq_true', Bool.not_eq_false', Bool.not_not, decide_eq_true_eq, decide_eq_false_iff_not, beq_iff_eq, bne_iff_ne, beq_eq_false_iff_ne, bne_eq_false_iff_eq, ne_eq, Bool.and_eq_true, Bool.and_eq_false_iff, Bool.or_eq_true, Bool.or_eq_false_iff, Int.toNat_natCast, Nat.zero_add, Int.ofNat_lt, Int.ofNat_le, List.length_cons, List.length_nil, List.drop_zero, List.take_length] at *)
        all_goals first | ((try simp only [anyS_r, ratS_r, uniS_r, ordS_r, pickS_r, nextS_r, famzS_r]); (first | exact ⟨100000, rfl⟩ | exact rawIn_adv (by assumption) ⟨100000, rfl⟩)) | ((repeat (first | apply pick_at | apply any_at | apply uni_at | apply ord_at | apply rat_at | apply next_at | apply famz_at)); exact AtOk.le (by assumption) (by first | decide | omega)) | omega | (show inI64 _; unfold inI64; omega) | (show 1 ≤ List.length _; simp; done) | (show _ * 32 ≤ 140737488355328; omega) | (show _ * 16 ≤ 140737488355328; omega) | with_reducible assumption | contradiction | exact unit_good_ (by assumption) | exact pk1 (by decide) (by decide) | exact pk2 (by decide) (by decide) | exact pk3 (by decide) (by decide) | exact pk4 (by decide) (by decide) | exact pk5 (by decide) (by decide) | skip
        all_goals first | exact gg _ | (have h9 := hp (pickS d 20) _ (by assumption); omega) | exact (hp _ _ (by omega)).1 | exact Int.lt_of_lt_of_le (hp _ _ (by omega)).2 (by omega) | skip
        all_goals first
          | (apply round_go (_, _, _)
             case hf =>
               repeat' (first | apply And.intro | exact True.intro | exact Lf.mk (by with_reducible rfl) | apply Lf.mk | with_reducible exact Eq.refl _)
               all_goals first | rfl | fail
             case hm => dsimp only; rw [List.length_append, List.length_cons, List.length_nil]; omega
             case h =>
               dsimp only
               refine ⟨?_, ?_, ?_⟩
               · rw [List.length_append, List.length_cons, List.length_nil]; exact g1.trans (j := 6) (by ((repeat (first | apply adv_pick | apply adv_any | apply adv_uni | apply adv_ord | apply adv_rat | apply adv_next | apply adv_famz)); (first | exact Adv.refl _ _ | exact Adv.le (by assumption) (by first | decide | omega)))) (by omega)
               · rw [List.length_append, List.length_cons, List.length_nil]; omega
               · first | exact gg _ | assumption)
          | (apply some_end (ks := [.cell 56 .cur]) (rs := [.list 30 .rat]) (_, ()) (_, ())
             case h =>
               repeat' (first | apply And.intro | exact True.intro | exact Lf.mk (by with_reducible rfl) | apply Lf.mk | with_reducible exact Eq.refl _)
               all_goals first | rfl | fail
             case q =>
               dsimp only
               refine ⟨?_, ?_⟩
               · first | omega | (rw [List.length_set]; omega)
               · exact g1.trans (j := 40) (by ((repeat (first | apply adv_pick | apply adv_any | apply adv_uni | apply adv_ord | apply adv_rat | apply adv_next | apply adv_famz)); (first | exact Adv.refl _ _ | exact Adv.le (by assumption) (by first | decide | omega)))) (by omega))
          | trace_state))
  exact ⟨fun c => (V c ()).1, fun c => S c (), fun c hA => h1 c () trivial hA trivial, fun c => h2 c (), h3⟩
@[irreducible] noncomputable def stairV : Cur → List Rt := Classical.choose ex_cur_stair
@[irreducible] noncomputable def stairS : Cur → Cur := Classical.choose (Classical.choose_spec ex_cur_stair)
theorem stair_spec : (∀ (c : Cur), AtOk 200 c → ((stairV c).length ≤ 22)) ∧ (∀ (c : Cur), Adv 200 c (stairS c)) ∧ GSpec Tryz.prog ⟨25, [.cell 56 .cur], [.list 30 .rat], fun ((c : Cur), _) => ⟨[AtOk 200 c], (stairV c, ()), (stairS c, ())⟩⟩ := by
  unfold stairV stairS
  exact (Classical.choose_spec (Classical.choose_spec ex_cur_stair))
theorem stair_ok {c : Cur} (hA : AtOk 200 c) : (stairV c).length ≤ 22 := stair_spec.1 c hA
theorem stairS_r (c : Cur) : (stairS c).r = c.r := (stair_spec.2.1 c).r
theorem stair_at {m : Nat} {c : Cur} (h : AtOk (m + 200) c) : AtOk m (stairS c) := (stair_spec.2.1 c).at_ h
theorem adv_stair {k : Nat} {c d : Cur} (h : Adv k c d) : Adv (k + 200) c (stairS d) := h.trans (stair_spec.2.1 d) (Nat.le_refl _)
noncomputable def s_cur_stair : Sig := ⟨25, [.cell 56 .cur], [.list 30 .rat], fun ((c : Cur), _) => ⟨[AtOk 200 c], (stairV c, ()), (stairS c, ())⟩⟩
theorem ok_cur_stair : GSpec Tryz.prog s_cur_stair := stair_spec.2.2
theorem toN_bd {x n : Int} (h : 0 ≤ x ∧ x ≤ n) (g : Int) (hg : 0 ≤ g ∧ g < n + 1) : 0 ≤ max x g ∧ max x g ≤ n := by omega
/-- all in [0, n] -/
def InR (n : Int) (l : List Int) : Prop := ∀ x ∈ l, 0 ≤ x ∧ x ≤ n
theorem InR.get {n : Int} {l : List Int} (h : InR n l) (hn : 0 ≤ n) (i : Nat) : 0 ≤ getA NI.dflt l i ∧ getA NI.dflt l i ≤ n := by
  by_cases hi : i < l.length
  · exact h _ (getA_mem _ hi)
  · have e : getA NI.dflt l i = 0 := by
      simp only [getA_eq, List.getD_eq_getElem?_getD, List.getElem?_eq_none (Nat.le_of_not_lt hi)]; rfl
    rw [e]; exact ⟨Int.le_refl _, hn⟩
theorem InR.app {n : Int} {l : List Int} (h : InR n l) {x : Int} (hx : 0 ≤ x ∧ x ≤ n) : InR n (l ++ [x]) := by
  intro y hy
  rcases List.mem_append.1 hy with h1 | h1
  · exact h y h1
  · rw [List.mem_singleton.1 h1]; exact hx
theorem putL_ge (x : Rt) : ∀ (l : List Rt), l.length ≤ (putL l x).length
  | [] => Nat.zero_le _
  | y :: r => by
    rw [putL_cons]
    split
    · simp only [List.length_cons]; have := putL_ge x r; omega
    · split
      · exact Nat.le_refl _
      · simp only [List.length_cons]; omega
def GY (l : List Pt) : Prop := ∀ p ∈ l, goodRt p.y = true
theorem GY.app {l : List Pt} (h : GY l) {p : Pt} (hp : goodRt p.y = true) : GY (l ++ [p]) := by
  intro y hy
  rcases List.mem_append.1 hy with h1 | h1
  · exact h y h1
  · rw [List.mem_singleton.1 h1]; exact hp
/-- the start of a lift: good, with small numbers -/
def Fst (x : Rt) : Prop := goodRt x = true ∧ (-1000 ≤ x.num ∧ x.num ≤ 1000) ∧ x.den ≤ 100
theorem fst_gri {c : Cur} {n : Int} (h : 1 ≤ n) (h2 : n ≤ 100) : Fst (griV c n) := by
  have h3 := griV_bd (c := c) h (by omega : n ≤ 100000)
  exact ⟨griV_good h (by omega), ⟨by omega, by omega⟩, by omega⟩
theorem fst_plus {c : Cur} {n : Int} (h : 1 ≤ n) (h2 : n ≤ 100) {k : Int} (hk : -5 ≤ k ∧ k ≤ 3) : Fst ⟨(griV c n).num + k * (griV c n).den, (griV c n).den⟩ := by
  have h3 := griV_bd (c := c) h (by omega : n ≤ 100000)
  have e1 : -5 * (griV c n).den ≤ k * (griV c n).den := Int.mul_le_mul_of_nonneg_right hk.1 (by omega)
  have e2 : k * (griV c n).den ≤ 3 * (griV c n).den := Int.mul_le_mul_of_nonneg_right hk.2 (by omega)
  exact ⟨plus_good (griV_good h (by omega)) ⟨by omega, by omega⟩, ⟨by show -1000 ≤ (griV c n).num + k * (griV c n).den; omega, by show (griV c n).num + k * (griV c n).den ≤ 1000; omega⟩, by show (griV c n).den ≤ 100; omega⟩
theorem Fst.one {x : Rt} (h : Fst x) : goodRt ⟨x.num + 1 * x.den, x.den⟩ = true := by
  have h2 := goodRt_iff.1 h.1
  obtain ⟨h0, h3, h4⟩ := h
  exact plus_good h0 ⟨by omega, by omega⟩
theorem Fst.add {x : Rt} (h : Fst x) {u n : Int} (h1 : 0 ≤ u ∧ u ≤ n) (h2 : 1 ≤ n ∧ n ≤ 100) : goodRt (addRt x (lowRt u n).1).1 = true := by
  have h5 := low_bd (n := u) (d := n) (low_small (by omega) (by omega) (by omega))
  have h6 := lowRt_good1 (n := u) (d := n) (low_small (by omega) (by omega) (by omega))
  have h7 := goodRt_iff.1 h6
  exact add_gd h.1 h6 h.2.1 h.2.2 ⟨by omega, by omega⟩ (by omega)
end Go.Vx
