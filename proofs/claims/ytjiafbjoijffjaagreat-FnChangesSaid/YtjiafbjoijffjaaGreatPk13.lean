/- Changes: plain facts. -/
import Derived.Test.YtjiafbjoijffjaaGreatPk12
namespace Go.Vx
open Go
set_option maxRecDepth 100000
set_option linter.unusedSimpArgs false
set_option linter.unusedVariables false

theorem q_low {n d : Int} (h0 : d ≠ 0) (h : (lowRt n d).2 = true) : qR (lowRt n d).1 = (n : Rat) / (d : Rat) := by
  have h1 := low_val h
  have h2 := den_pos (lowRt_good1 h)
  have h3 : (d : Rat) ≠ 0 := fun h => h0 (Rat.intCast_eq_zero_iff.1 h)
  have h4 : ((lowRt n d).1.num : Rat) * (d : Rat) = (n : Rat) * ((lowRt n d).1.den : Rat) := by
    rw [← Rat.intCast_mul, h1, Rat.intCast_mul]
  unfold qR
  have h5 : ((lowRt n d).1.den : Rat) ≠ 0 := by grind
  grind
theorem q_sub {a b : Rt} (ha : goodRt a = true) (hb : goodRt b = true) (h : (subRt a b).2 = true) : qR (subRt a b).1 = qR a - qR b := by
  have h1 := denmul ha hb
  have h2 := den_pos ha
  have h3 := den_pos hb
  unfold subRt at h ⊢
  rw [q_low (by omega) h]
  unfold qR
  rw [Rat.intCast_sub, Rat.intCast_mul, Rat.intCast_mul, Rat.intCast_mul]
  grind
theorem q_add {a b : Rt} (ha : goodRt a = true) (hb : goodRt b = true) (h : (addRt a b).2 = true) : qR (addRt a b).1 = qR a + qR b := by
  have h1 := denmul ha hb
  have h2 := den_pos ha
  have h3 := den_pos hb
  unfold addRt at h ⊢
  rw [q_low (by omega) h]
  unfold qR
  rw [Rat.intCast_add, Rat.intCast_mul, Rat.intCast_mul, Rat.intCast_mul]
  grind
theorem q_mul {a b : Rt} (ha : goodRt a = true) (hb : goodRt b = true) (h : (mulRt a b).2 = true) : qR (mulRt a b).1 = qR a * qR b := by
  have h1 := denmul ha hb
  have h2 := den_pos ha
  have h3 := den_pos hb
  unfold mulRt at h ⊢
  rw [q_low (by omega) h]
  unfold qR
  rw [Rat.intCast_mul, Rat.intCast_mul]
  grind
theorem q_div {a b : Rt} (ha : goodRt a = true) (hb : goodRt b = true) (hb0 : b.num ≠ 0) (h : (divRt a b).2 = true) : qR (divRt a b).1 * qR b = qR a := by
  have h2 := den_pos ha
  have h3 := den_pos hb
  have h5 : (b.num : Rat) ≠ 0 := fun h => hb0 (Rat.intCast_eq_zero_iff.1 h)
  have h1 := (goodRt_iff.1 ha).1
  unfold divRt at h ⊢
  rw [q_low (by intro h; rcases Int.mul_eq_zero.1 h with h | h <;> omega) h]
  unfold qR
  rw [Rat.intCast_mul, Rat.intCast_mul]
  grind
theorem low_bd {n d : Int} (h : (lowRt n d).2 = true) : (lowRt n d).1.num.natAbs ≤ n.natAbs ∧ (lowRt n d).1.den ≤ d.natAbs := by
  cases hg : goodRt ⟨n.tdiv (gsgn n d), d.tdiv (gsgn n d)⟩ with
  | false => rw [lowRt_f hg] at h; cases h
  | true =>
    rw [lowRt_t hg]
    have := @tdiv_bd n (gsgn n d)
    have := @tdiv_bd d (gsgn n d)
    exact ⟨by omega, by dsimp only; omega⟩
abbrev ltR (a b : Rt) : Prop := a.num * b.den < b.num * a.den
theorem q_zero : qR ⟨0, 1⟩ = 0 := by unfold qR; dsimp only; grind
theorem q_one : qR ⟨1, 1⟩ = 1 := by unfold qR; dsimp only; grind
theorem q_unit {r : Rt} (h : goodRt r = true) : unitRt r = true ↔ (0 ≤ qR r ∧ qR r ≤ 1) := by
  have h1 := q_lt h good_zero
  have h2 := q_lt good_one h
  rw [q_zero] at h1
  rw [q_one] at h2
  dsimp only at h1 h2
  rw [unitRt_iff]
  constructor
  · intro ⟨_, h3, h4⟩
    constructor
    · by_cases h6 : qR r < 0
      · have := h1.2 h6; omega
      · grind
    · by_cases h6 : 1 < qR r
      · have := h2.2 h6; omega
      · grind
  · intro ⟨h3, h4⟩
    refine ⟨h, ?_, ?_⟩
    · rcases Int.lt_or_le r.num 0 with h5 | h5
      · have := h1.1 (by omega); grind
      · exact h5
    · rcases Int.lt_or_le r.den r.num with h5 | h5
      · have := h2.1 (by omega); grind
      · exact h5

abbrev zP : Pt := ⟨⟨0, 0⟩, ⟨0, 0⟩⟩
noncomputable def coordRt (r : Rt) : Bool := unitRt r && decide (r.den ≤ 100)
noncomputable def ptOk (p : Pt) : Bool := coordRt p.x && coordRt p.y
def risR (l : List Rt) : Bool := (List.range (l.length - 1)).all fun i => lessRt (getA zR l i) (getA zR l (i + 1))
noncomputable def mapOk (f : List Pt) : Bool := inB f.length 2 12 && (f.all ptOk && (decide ((getA zP f 0).x = ⟨0, 1⟩) && (decide ((getA zP f (f.length - 1)).x = ⟨1, 1⟩) && risR (f.map Pt.x))))
theorem coord_iff {r : Rt} : coordRt r = true ↔ (goodRt r = true ∧ 0 ≤ r.num ∧ r.num ≤ r.den ∧ 1 ≤ r.den ∧ r.den ≤ 100) := by
  unfold coordRt
  rw [Bool.and_eq_true, unitRt_iff, decide_eq_true_eq]
  constructor
  · intro ⟨⟨h1, h2, h3⟩, h4⟩; exact ⟨h1, h2, h3, (goodRt_iff.1 h1).1, h4⟩
  · intro ⟨h1, h2, h3, _, h4⟩; exact ⟨⟨h1, h2, h3⟩, h4⟩
theorem ptOk_iff {p : Pt} : ptOk p = true ↔ (coordRt p.x = true ∧ coordRt p.y = true) := by
  unfold ptOk; rw [Bool.and_eq_true]
theorem coord_good {r : Rt} (h : coordRt r = true) : goodRt r = true := (coord_iff.1 h).1
theorem coord_unit {r : Rt} (h : coordRt r = true) : unitRt r = true := by
  have := coord_iff.1 h; exact unitRt_iff.2 ⟨this.1, this.2.1, this.2.2.1⟩
theorem unit_good {r : Rt} (h : unitRt r = true) : goodRt r = true := (unitRt_iff.1 h).1
theorem getA_map {α β : Type} (g : α → β) (d : α) (e : β) (l : List α) (i : Nat) (h : i < l.length) : getA e (l.map g) i = g (getA d l i) := by
  rw [getA_lt _ _ _ (by simpa using h), getA_lt _ _ _ h, List.getElem_map]
theorem risR_iff {l : List Rt} : risR l = true ↔ ∀ i, i + 1 < l.length → ltR (getA zR l i) (getA zR l (i + 1)) := by
  unfold risR
  rw [List.all_eq_true]
  constructor
  · intro h i hi
    have := h i (List.mem_range.2 (by omega))
    simpa [lessRt] using this
  · intro h i hi
    have := h i (by have := List.mem_range.1 hi; omega)
    simpa [lessRt] using this
theorem mapOk_iff {f : List Pt} : mapOk f = true ↔ ((2 ≤ f.length ∧ f.length ≤ 12) ∧ (∀ p ∈ f, ptOk p = true) ∧ (getA zP f 0).x = ⟨0, 1⟩ ∧ (getA zP f (f.length - 1)).x = ⟨1, 1⟩ ∧ ∀ i, i + 1 < f.length → ltR (getA zP f i).x (getA zP f (i + 1)).x) := by
  unfold mapOk inB
  simp only [Bool.and_eq_true, decide_eq_true_eq, List.all_eq_true, risR_iff, List.length_map]
  constructor
  · intro ⟨h1, h2, h3, h4, h5⟩
    refine ⟨by omega, h2, h3, h4, fun i hi => ?_⟩
    have := h5 i hi
    rwa [getA_map Pt.x zP _ _ _ (by omega), getA_map Pt.x zP _ _ _ (by omega)] at this
  · intro ⟨h1, h2, h3, h4, h5⟩
    refine ⟨by omega, h2, h3, h4, fun i hi => ?_⟩
    rw [getA_map Pt.x zP _ _ _ (by omega), getA_map Pt.x zP _ _ _ (by omega)]
    exact h5 i hi
theorem map_pt {f : List Pt} (h : mapOk f = true) {i : Nat} (hi : i < f.length) : ptOk (getA zP f i) = true := (mapOk_iff.1 h).2.1 _ (getA_mem _ hi)

/-- the slope of a piece -/
noncomputable def slR (p q : Pt) : Rt := (divRt (subRt q.y p.y).1 (subRt q.x p.x).1).1
theorem sub_coord {a b : Rt} (ha : coordRt a = true) (hb : coordRt b = true) : (subRt a b).2 = true ∧ goodRt (subRt a b).1 = true ∧ (-10000 ≤ (subRt a b).1.num ∧ (subRt a b).1.num ≤ 10000) ∧ (1 ≤ (subRt a b).1.den ∧ (subRt a b).1.den ≤ 10000) := by
  have h1 := coord_iff.1 ha
  have h2 := coord_iff.1 hb
  have m1 := mul_bd (A := 100) (B := 100) (a := a.num) (b := b.den) (by omega) (by omega) (by omega) (by omega) (by omega)
  have m2 := mul_bd (A := 100) (B := 100) (a := b.num) (b := a.den) (by omega) (by omega) (by omega) (by omega) (by omega)
  have m3 := mul_bd (A := 100) (B := 100) (a := a.den) (b := b.den) (by omega) (by omega) (by omega) (by omega) (by omega)
  have m4 := Int.mul_nonneg (a := a.num) (b := b.den) (by omega) (by omega)
  have m5 := Int.mul_nonneg (a := b.num) (b := a.den) (by omega) (by omega)
  have m6 := Int.mul_pos (a := a.den) (b := b.den) (by omega) (by omega)
  have s : (subRt a b).2 = true := by unfold subRt; exact low_small (by omega) (by omega) (by omega)
  have g : goodRt (subRt a b).1 = true := lowRt_good1 s
  have := low_bd s
  have := (goodRt_iff.1 g).1
  unfold subRt at *
  exact ⟨s, g, by omega, by omega⟩
theorem sub_num_pos {a b : Rt} (ha : goodRt a = true) (hb : goodRt b = true) (hs : (subRt a b).2 = true) (h : ltR b a) : 0 < (subRt a b).1.num := by
  have e := low_val hs
  have g := (goodRt_iff.1 (lowRt_good1 hs)).1
  have d := denmul ha hb
  have h1 : 0 < a.num * b.den - b.num * a.den := by have : b.num * a.den < a.num * b.den := h; omega
  have h2 := Int.mul_pos h1 (b := (lowRt (a.num * b.den - b.num * a.den) (a.den * b.den)).1.den) (by omega)
  rw [← e] at h2
  unfold subRt
  rcases Int.lt_or_le 0 (lowRt (a.num * b.den - b.num * a.den) (a.den * b.den)).1.num with h3 | h3
  · exact h3
  · have := Int.mul_nonpos_of_nonpos_of_nonneg h3 (show 0 ≤ a.den * b.den by omega); omega
theorem slR_ok {p q : Pt} (hp : ptOk p = true) (hq : ptOk q = true) (h : ltR p.x q.x) :
    (divRt (subRt q.y p.y).1 (subRt q.x p.x).1).2 = true ∧ goodRt (slR p q) = true ∧ qR (slR p q) * (qR q.x - qR p.x) = qR q.y - qR p.y := by
  rw [ptOk_iff] at hp hq
  obtain ⟨a1, a2, a3, a4⟩ := sub_coord hq.2 hp.2
  obtain ⟨b1, b2, b3, b4⟩ := sub_coord hq.1 hp.1
  have b5 := sub_num_pos (coord_good hq.1) (coord_good hp.1) b1 h
  have m1 := mul_bd (A := 10000) (B := 10000) (a := (subRt q.y p.y).1.num) (b := (subRt q.x p.x).1.den) (by omega) (by omega) (by omega) (by omega) (by omega)
  have m3 := mul_bd (A := 10000) (B := 10000) (a := (subRt q.y p.y).1.den) (b := (subRt q.x p.x).1.num) (by omega) (by omega) (by omega) (by omega) (by omega)
  have m6 := Int.mul_pos (a := (subRt q.y p.y).1.den) (b := (subRt q.x p.x).1.num) (by omega) (by omega)
  have s : (divRt (subRt q.y p.y).1 (subRt q.x p.x).1).2 = true := by unfold divRt; exact low_small (by omega) (by omega) (by omega)
  refine ⟨s, lowRt_good1 s, ?_⟩
  have e := q_div a2 b2 (by omega) s
  rw [q_sub (coord_good hq.2) (coord_good hp.2) a1, q_sub (coord_good hq.1) (coord_good hp.1) b1] at e
  exact e

/-- the slopes of the first pieces -/
noncomputable def slL (f : List Pt) (n : Nat) : List Rt := (List.range n).map fun i => slR (getA zP f i) (getA zP f (i + 1))
theorem slL_length (f : List Pt) (n : Nat) : (slL f n).length = n := by simp [slL]
theorem slL_succ (f : List Pt) (n : Nat) : slL f n ++ [slR (getA zP f n) (getA zP f (n + 1))] = slL f (n + 1) := by
  unfold slL; rw [List.range_succ, List.map_append]; rfl
/-- Y + s (x - X) -/
noncomputable def lineR (p : Pt) (s x : Rt) : Rt × Bool := match (subRt x p.x).2 with
  | true => match (mulRt s (subRt x p.x).1).2 with
    | true => addRt p.y (mulRt s (subRt x p.x).1).1
    | false => (⟨0, 0⟩, false)
  | false => (⟨0, 0⟩, false)
noncomputable def lineO (p : Pt) (s x : Rt) : Rt := opR (addRt p.y (opR (mulRt s (opR (subRt x p.x)))))
theorem lineR_1 {p : Pt} {s x : Rt} (h : (subRt x p.x).2 = false) : lineR p s x = (⟨0, 0⟩, false) := by unfold lineR; rw [h]
theorem lineR_2 {p : Pt} {s x : Rt} (h1 : (subRt x p.x).2 = true) (h : (mulRt s (subRt x p.x).1).2 = false) : lineR p s x = (⟨0, 0⟩, false) := by unfold lineR; rw [h1, h]
theorem lineR_3 {p : Pt} {s x : Rt} (h1 : (subRt x p.x).2 = true) (h : (mulRt s (subRt x p.x).1).2 = true) : lineR p s x = addRt p.y (mulRt s (subRt x p.x).1).1 := by unfold lineR; rw [h1, h]
theorem lineR_bad {p : Pt} {s x : Rt} (h : (lineR p s x).2 = false) : lineR p s x = (⟨0, 0⟩, false) := by
  cases h1 : (subRt x p.x).2 with
  | false => exact lineR_1 h1
  | true => cases h2 : (mulRt s (subRt x p.x).1).2 with
    | false => exact lineR_2 h1 h2
    | true => rw [lineR_3 h1 h2] at h ⊢; exact lowRt_bad h
theorem opR_p (a : Rt) : opR (a, true) = a := opR_t rfl
theorem opR_f {r : Rt × Bool} (h : r.2 = false) : opR r = ⟨0, 1⟩ := by unfold opR; rw [h]
theorem line_flag (c : Bool) (p : Pt) (s x : Rt) : (((c || !(subRt x p.x).2) || !(mulRt s (opR (subRt x p.x))).2) || !(addRt p.y (opR (mulRt s (opR (subRt x p.x))))).2) = (c || !(lineR p s x).2) := by
  cases h1 : (subRt x p.x).2 with
  | false => rw [lineR_1 h1]; simp
  | true =>
    rw [opR_t h1]
    cases h2 : (mulRt s (subRt x p.x).1).2 with
    | false => rw [lineR_2 h1 h2]; simp
    | true => rw [lineR_3 h1 h2, opR_t h2]; simp
theorem lineO_t {p : Pt} {s x : Rt} (h : (lineR p s x).2 = true) : lineO p s x = (lineR p s x).1 := by
  cases h1 : (subRt x p.x).2 with
  | false => rw [lineR_1 h1] at h; cases h
  | true =>
    cases h2 : (mulRt s (subRt x p.x).1).2 with
    | false => rw [lineR_2 h1 h2] at h; cases h
    | true =>
      rw [lineR_3 h1 h2] at h ⊢
      unfold lineO
      rw [opR_t h1, opR_t h2, opR_t h]
theorem mul_zero_r {s : Rt} (h : goodRt s = true) : mulRt s ⟨0, 1⟩ = (⟨0, 1⟩, true) := by
  have h1 := goodRt_iff.1 h
  unfold mulRt
  dsimp only
  rw [Int.mul_zero, Int.mul_one]
  have hs := low_small (n := 0) (d := s.den) (by omega) (by omega) (by omega)
  have hg := lowRt_good1 hs
  have hv := low_val hs
  have e : (lowRt 0 s.den).1 = ⟨0, 1⟩ := good_eq hg good_zero (by
    dsimp only
    rw [Int.zero_mul] at hv ⊢
    rcases Int.mul_eq_zero.1 hv with h | h
    · rw [h]; rfl
    · omega)
  rw [pair_t hs, e]
theorem add_zero_r {a : Rt} (h : goodRt a = true) : addRt a ⟨0, 1⟩ = (a, true) := by
  unfold addRt
  dsimp only
  rw [Int.mul_one, Int.mul_one, Int.zero_mul, Int.add_zero]
  exact lowRt_good h
theorem unit_zero : unitRt ⟨0, 1⟩ = true := unitRt_iff.2 ⟨good_zero, by decide⟩
theorem unit_one : unitRt ⟨1, 1⟩ = true := unitRt_iff.2 ⟨good_one, by decide⟩
theorem lineO_bad {p : Pt} {s x : Rt} (hp : unitRt p.y = true) (hs : goodRt s = true) (h : (lineR p s x).2 = false) : unitRt (lineO p s x) = true := by
  unfold lineO
  cases h1 : (subRt x p.x).2 with
  | false =>
    rw [opR_f h1, mul_zero_r hs, opR_p, add_zero_r (unit_good hp), opR_p]; exact hp
  | true =>
    cases h2 : (mulRt s (subRt x p.x).1).2 with
    | false => rw [opR_t h1, opR_f h2, add_zero_r (unit_good hp), opR_p]; exact hp
    | true =>
      rw [lineR_3 h1 h2] at h
      rw [opR_t h1, opR_t h2, opR_f h]; exact unit_zero
/-- the value between two points lies between theirs -/
theorem line_unit {p q : Pt} {x : Rt} (hp : ptOk p = true) (hq : ptOk q = true) (h : ltR p.x q.x) (hx : goodRt x = true) (h1 : ¬ ltR x p.x) (h2 : ¬ ltR q.x x) (ho : (lineR p (slR p q) x).2 = true) : unitRt (lineR p (slR p q) x).1 = true := by
  obtain ⟨s1, s2, s3⟩ := slR_ok hp hq h
  rw [ptOk_iff] at hp hq
  have gx := coord_good hp.1
  have gy := coord_good hp.2
  have gX := coord_good hq.1
  have gY := coord_good hq.2
  cases e1 : (subRt x p.x).2 with
  | false => rw [lineR_1 e1] at ho; cases ho
  | true =>
    cases e2 : (mulRt (slR p q) (subRt x p.x).1).2 with
    | false => rw [lineR_2 e1 e2] at ho; cases ho
    | true =>
      rw [lineR_3 e1 e2] at ho ⊢
      have g1 : goodRt (subRt x p.x).1 = true := lowRt_good1 e1
      have g2 : goodRt (mulRt (slR p q) (subRt x p.x).1).1 = true := lowRt_good1 e2
      have g3 : goodRt (addRt p.y (mulRt (slR p q) (subRt x p.x).1).1).1 = true := lowRt_good1 ho
      rw [q_unit g3, q_add gy g2 ho, q_mul s2 g1 e2, q_sub hx gx e1]
      have l1 := (q_lt gx gX).1 h
      have l2 : qR p.x ≤ qR x := Rat.not_lt.1 fun hh => h1 ((q_lt hx gx).2 hh)
      have l3 : qR x ≤ qR q.x := Rat.not_lt.1 fun hh => h2 ((q_lt gX hx).2 hh)
      have u1 := (q_unit gy).1 (coord_unit hp.2)
      have u2 := (q_unit gY).1 (coord_unit hq.2)
      have m1 := Rat.mul_nonneg u1.1 (show 0 ≤ qR q.x - qR x by grind)
      have m2 := Rat.mul_nonneg u2.1 (show 0 ≤ qR x - qR p.x by grind)
      have m3 := Rat.mul_nonneg (show 0 ≤ 1 - qR p.y by grind) (show 0 ≤ qR q.x - qR x by grind)
      have m4 := Rat.mul_nonneg (show 0 ≤ 1 - qR q.y by grind) (show 0 ≤ qR x - qR p.x by grind)
      have lp : 0 < qR q.x - qR p.x := by grind
      have key : (qR p.y + qR (slR p q) * (qR x - qR p.x)) * (qR q.x - qR p.x) = qR p.y * (qR q.x - qR x) + qR q.y * (qR x - qR p.x) := by grind
      constructor
      · by_cases h6 : qR p.y + qR (slR p q) * (qR x - qR p.x) < 0
        · have := Rat.mul_pos (show 0 < -(qR p.y + qR (slR p q) * (qR x - qR p.x)) by grind) lp; grind
        · grind
      · by_cases h6 : 1 < qR p.y + qR (slR p q) * (qR x - qR p.x)
        · have := Rat.mul_pos (show 0 < (qR p.y + qR (slR p q) * (qR x - qR p.x)) - 1 by grind) lp; grind
        · grind

/-- the first piece that has x -/
def pcN (f : List Pt) (x : Rt) : Nat := (idxF (fun p : Pt => !lessRt p.x x) f - 1).toNat
theorem pc_spec {f : List Pt} {x : Rt} (h : mapOk f = true) (hx : unitRt x = true) : pcN f x + 1 < f.length ∧ ¬ ltR x (getA zP f (pcN f x)).x ∧ ¬ ltR (getA zP f (pcN f x + 1)).x x ∧ ∀ j, 0 < j → j ≤ pcN f x → ltR (getA zP f j).x x := by
  obtain ⟨h1, h2, h3, h4, h5⟩ := mapOk_iff.1 h
  have hu := unitRt_iff.1 hx
  have hden := (goodRt_iff.1 hu.1).1
  have hlast : (fun p : Pt => !lessRt p.x x) (getA zP f (f.length - 1)) = true := by
    dsimp only
    rw [h4]
    simp [lessRt]
    omega
  have hex : f.findIdx? (fun p : Pt => !lessRt p.x x) ≠ none := by
    rw [ne_eq, List.findIdx?_eq_none_iff]
    intro hn
    have h6 : (!lessRt (getA zP f (f.length - 1)).x x) = true := hlast
    rw [hn _ (getA_mem zP (by omega))] at h6
    cases h6
  cases hf : f.findIdx? (fun p : Pt => !lessRt p.x x) with
  | none => exact (hex hf).elim
  | some k =>
    obtain ⟨k1, k2, k3⟩ := List.findIdx?_eq_some_iff_getElem.1 hf
    have e : pcN f x = k - 1 := by unfold pcN idxF; rw [hf]; dsimp only; omega
    have k2' : ¬ ltR (getA zP f k).x x := by
      rw [getA_lt _ _ _ k1]; simpa [lessRt] using k2
    have k3' : ∀ j, j < k → ltR (getA zP f j).x x := by
      intro j hj
      have := k3 j hj
      rw [getA_lt _ _ _ (by omega)]; simpa [lessRt] using this
    rw [e]
    rcases Nat.eq_zero_or_pos k with hk | hk
    · subst hk
      have hx0 : x.num = 0 := by
        rw [h3] at k2'
        have : ¬ ((0 : Int) * x.den < x.num * 1) := k2'
        omega
      refine ⟨by omega, ?_, ?_, fun j hj hj2 => by omega⟩
      · rw [h3]
        show ¬ (x.num * 1 < 0 * x.den)
        omega
      · have hp := ptOk_iff.1 (h2 _ (getA_mem zP (l := f) (i := 1) (by omega)))
        have hc := coord_iff.1 hp.1
        show ¬ ((getA zP f (0 - 1 + 1)).x.num * x.den < x.num * (getA zP f (0 - 1 + 1)).x.den)
        have := Int.mul_nonneg hc.2.1 (show 0 ≤ x.den by omega)
        rw [hx0, Int.zero_mul]
        show ¬ ((getA zP f 1).x.num * x.den < 0)
        omega
    · have ek : k - 1 + 1 = k := by omega
      rw [ek]
      refine ⟨k1, ?_, k2', fun j hj hj2 => k3' j (by omega)⟩
      have := k3' (k - 1) (by omega)
      show ¬ (_ < _)
      have : (getA zP f (k - 1)).x.num * x.den < x.num * (getA zP f (k - 1)).x.den := this
      omega
/-- a piece found step by step is this piece -/
theorem pc_uniq {f : List Pt} {x : Rt} (h : mapOk f = true) (hx : unitRt x = true) {i : Nat} (h1 : ∀ j, 0 < j → j ≤ i → ltR (getA zP f j).x x) (h2 : ¬ (i + 2 < f.length ∧ ltR (getA zP f (i + 1)).x x)) (h3 : i + 1 < f.length) : i = pcN f x := by
  obtain ⟨p1, p2, p3, p4⟩ := pc_spec h hx
  rcases Nat.lt_trichotomy i (pcN f x) with h4 | h4 | h4
  · exact (h2 ⟨by omega, p4 (i + 1) (by omega) (by omega)⟩).elim
  · exact h4
  · exact (p3 (h1 (pcN f x + 1) (by omega) (by omega))).elim

/-- the value of a map -/
@[irreducible] noncomputable def vR (f : List Pt) (x : Rt) : Rt × Bool := lineR (getA zP f (pcN f x)) (slR (getA zP f (pcN f x)) (getA zP f (pcN f x + 1))) x
@[irreducible] noncomputable def vO (f : List Pt) (x : Rt) : Rt := lineO (getA zP f (pcN f x)) (slR (getA zP f (pcN f x)) (getA zP f (pcN f x + 1))) x
theorem vR_bad {f : List Pt} {x : Rt} (h : (vR f x).2 = false) : vR f x = (⟨0, 0⟩, false) := by unfold vR at h ⊢; exact lineR_bad h
theorem vO_t {f : List Pt} {x : Rt} (h : (vR f x).2 = true) : vO f x = (vR f x).1 := by unfold vR at h ⊢; unfold vO; exact lineO_t h
theorem vO_unit {f : List Pt} {x : Rt} (h : mapOk f = true) (hx : unitRt x = true) : unitRt (vO f x) = true := by
  obtain ⟨p1, p2, p3, p4⟩ := pc_spec h hx
  obtain ⟨h1, h2, h3, h4, h5⟩ := mapOk_iff.1 h
  have a1 := map_pt h (i := pcN f x) (by omega)
  have a2 := map_pt h (i := pcN f x + 1) (by omega)
  obtain ⟨s1, s2, s3⟩ := slR_ok a1 a2 (h5 _ p1)
  cases hv : (vR f x).2 with
  | true => rw [vO_t hv]; unfold vR at hv ⊢; exact line_unit a1 a2 (h5 _ p1) (unit_good hx) p2 p3 hv
  | false => unfold vR at hv; unfold vO; exact lineO_bad (coord_unit (ptOk_iff.1 a1).2) s2 hv
theorem vR_unit {f : List Pt} {x : Rt} (h : mapOk f = true) (hx : unitRt x = true) (hv : (vR f x).2 = true) : unitRt (vR f x).1 = true := by
  rw [← vO_t hv]; exact vO_unit h hx
end Go.Vx
namespace Go.Vx
open Go
set_option maxRecDepth 100000
set_option linter.unusedSimpArgs false
set_option linter.unusedVariables false

theorem q_inj {a b : Rt} (ha : goodRt a = true) (hb : goodRt b = true) (h : qR a = qR b) : a = b := by
  have h1 : ¬ (a.num * b.den < b.num * a.den) := fun h2 => by rw [q_lt ha hb] at h2; grind
  have h2 : ¬ (b.num * a.den < a.num * b.den) := fun h2 => by rw [q_lt hb ha] at h2; grind
  exact good_eq ha hb (by omega)
theorem less_q {a b : Rt} (ha : goodRt a = true) (hb : goodRt b = true) : lessRt a b = true ↔ qR a < qR b := by
  unfold lessRt; rw [decide_eq_true_eq, q_lt ha hb]
theorem less_q_f {a b : Rt} (ha : goodRt a = true) (hb : goodRt b = true) : lessRt a b = false ↔ qR b ≤ qR a := by
  rw [← Bool.not_eq_true, less_q ha hb]; grind

def SS (l : List Rt) : Prop := l.Pairwise fun a b => qR a < qR b
def Gd (l : List Rt) : Prop := ∀ x ∈ l, goodRt x = true

theorem SS.uniq {l m : List Rt} (h1 : SS l) (h2 : SS m) (h : ∀ x, x ∈ l ↔ x ∈ m) : l = m := by
  have nd : ∀ {l : List Rt}, SS l → l.Nodup := fun h => h.imp fun h e => by subst e; grind
  refine List.Perm.eq_of_pairwise (le := fun a b => qR a < qR b) ?_ h1 h2 ((List.perm_ext_iff_of_nodup (nd h1) (nd h2)).2 h)
  intro a b _ _ h3 h4
  grind

/-- one more, at its place, if it is not there -/
def pvL : List Rt → Rt → List Rt
  | [], x => [x]
  | y :: r, x => bif lessRt y x then y :: pvL r x else bif eqRt y x then y :: r else x :: y :: r
@[irreducible] def putL (l : List Rt) (x : Rt) : List Rt := pvL l x
theorem putL_nil (x : Rt) : putL [] x = [x] := by unfold putL; rfl
theorem putL_cons (y : Rt) (r : List Rt) (x : Rt) : putL (y :: r) x = if lessRt y x = true then y :: putL r x else if y = x then y :: r else x :: y :: r := by
  unfold putL
  rw [pvL]
  cases h : lessRt y x
  · by_cases h2 : y = x <;> simp [h2, eqRt]
  · simp
theorem putL_mem {x z : Rt} : ∀ {l : List Rt}, z ∈ putL l x ↔ z ∈ l ∨ z = x
  | [] => by rw [putL_nil]; simp
  | y :: r => by
    rw [putL_cons]
    split
    · simp only [List.mem_cons, putL_mem (l := r)]; grind
    · split
      · simp only [List.mem_cons]; grind
      · simp only [List.mem_cons]; grind
theorem putL_good {l : List Rt} {x : Rt} (h : Gd l) (hx : goodRt x = true) : Gd (putL l x) := fun z hz => by
  rcases putL_mem.1 hz with h1 | h1
  · exact h z h1
  · rw [h1]; exact hx
theorem putL_ss {x : Rt} (hx : goodRt x = true) : ∀ {l : List Rt}, Gd l → SS l → SS (putL l x)
  | [], _, _ => by rw [putL_nil]; exact List.pairwise_singleton ..
  | y :: r, hg, hs => by
    have hy := hg y (by simp)
    have hs' := List.pairwise_cons.1 hs
    rw [putL_cons]
    split
    · rename_i h
      rw [less_q hy hx] at h
      refine List.pairwise_cons.2 ⟨fun z hz => ?_, putL_ss hx (fun z hz => hg z (by simp [hz])) hs'.2⟩
      rcases putL_mem.1 hz with h1 | h1
      · exact hs'.1 z h1
      · rw [h1]; exact h
    · rename_i h
      rw [Bool.not_eq_true, less_q_f hy hx] at h
      split
      · exact hs
      · rename_i h3
        have h4 : qR x < qR y := by
          have : qR x ≠ qR y := fun e => h3 (q_inj hy hx e.symm)
          grind
        refine List.pairwise_cons.2 ⟨fun z hz => ?_, hs⟩
        rcases List.mem_cons.1 hz with rfl | h5
        · exact h4
        · have := hs'.1 z h5; grind
theorem putL_len (x : Rt) : ∀ (l : List Rt), (putL l x).length ≤ l.length + 1
  | [] => by rw [putL_nil]; simp
  | y :: r => by
    rw [putL_cons]
    split
    · have := putL_len x r; simp; omega
    · split <;> simp

/-- all put in, one by one -/
@[irreducible] def putsL (l m : List Rt) : List Rt := m.foldl putL l
theorem putsL_nil (l : List Rt) : putsL l [] = l := by unfold putsL; rfl
theorem putsL_cons (l : List Rt) (x : Rt) (r : List Rt) : putsL l (x :: r) = putsL (putL l x) r := by unfold putsL; rfl
theorem putsL_mem {z : Rt} : ∀ {m l : List Rt}, z ∈ putsL l m ↔ z ∈ l ∨ z ∈ m
  | [], l => by rw [putsL_nil]; simp
  | x :: r, l => by
    rw [putsL_cons, putsL_mem, putL_mem]
    simp only [List.mem_cons]; grind
theorem putsL_good : ∀ {m l : List Rt}, Gd l → Gd m → Gd (putsL l m)
  | [], l, h, _ => by rw [putsL_nil]; exact h
  | x :: r, l, h, h2 => by
    rw [putsL_cons]
    exact putsL_good (m := r) (putL_good h (h2 x (by simp))) fun z hz => h2 z (by simp [hz])
theorem putsL_ss : ∀ {m l : List Rt}, Gd l → Gd m → SS l → SS (putsL l m)
  | [], l, _, _, h => by rw [putsL_nil]; exact h
  | x :: r, l, h, h2, h3 => by
    rw [putsL_cons]
    exact putsL_ss (m := r) (putL_good h (h2 x (by simp))) (fun z hz => h2 z (by simp [hz])) (putL_ss (h2 x (by simp)) h h3)
theorem putsL_len : ∀ (m l : List Rt), (putsL l m).length ≤ l.length + m.length
  | [], l => by rw [putsL_nil]; simp
  | x :: r, l => by
    have h1 := putsL_len r (putL l x)
    have h2 := putL_len x l
    rw [putsL_cons, List.length_cons]; omega
theorem putsL_append (l m n : List Rt) : putsL l (m ++ n) = putsL (putsL l m) n := by unfold putsL; rw [List.foldl_append]
theorem putsL_one' (l m : List Rt) (x : Rt) : putsL l (m ++ [x]) = putL (putsL l m) x := by rw [putsL_append, putsL_cons, putsL_nil]
theorem Gd.nil : Gd [] := fun _ h => by cases h
theorem SS.nil : SS [] := List.Pairwise.nil

/-- the elements that are kept among the first m: those that are not like the one before -/
@[irreducible] def kpL (l : List Rt) (m : Nat) : List Rt := ((List.range m).filter fun j => decide (j = 0 ∨ getA zR l j ≠ getA zR l (j - 1))).map (getA zR l)
theorem kpL_zero (l : List Rt) : kpL l 0 = [] := by unfold kpL; rfl
theorem kpL_step (l : List Rt) (m : Nat) : kpL l (m + 1) = if m = 0 ∨ getA zR l m ≠ getA zR l (m - 1) then kpL l m ++ [getA zR l m] else kpL l m := by
  unfold kpL
  rw [List.range_succ, List.filter_append, List.map_append]
  by_cases h : m = 0 ∨ getA zR l m ≠ getA zR l (m - 1)
  · rw [if_pos h]; simp [List.filter, h]
  · rw [if_neg h]; simp [List.filter, h]
theorem kpL_t {l : List Rt} {m : Nat} (h : m = 0 ∨ getA zR l m ≠ getA zR l (m - 1)) : kpL l (m + 1) = kpL l m ++ [getA zR l m] := by rw [kpL_step, if_pos h]
theorem kpL_f {l : List Rt} {m : Nat} (h0 : 0 < m) (h : getA zR l m = getA zR l (m - 1)) : kpL l (m + 1) = kpL l m := by
  rw [kpL_step, if_neg]
  rintro (h1 | h1)
  · omega
  · exact h1 h
theorem kpL_len (l : List Rt) : ∀ m, (kpL l m).length ≤ m
  | 0 => by rw [kpL_zero]; simp
  | m + 1 => by
    have := kpL_len l m
    rw [kpL_step]; split
    · simp; omega
    · omega
theorem kpL_pos (l : List Rt) : ∀ m, 0 < m → 0 < (kpL l m).length
  | 0, h => by omega
  | 1, _ => by rw [kpL_t (.inl rfl)]; simp
  | m + 2, _ => by
    have := kpL_pos l (m + 1) (by omega)
    rw [kpL_step]; split
    · simp
    · exact this
theorem take_next {α : Type} (d : α) {l : List α} {i : Nat} (h : i < l.length) : l.take (i + 1) = l.take i ++ [getA d l i] := by
  rw [getA_eq, List.take_add_one]; simp [List.getD, h]
theorem kpL_all {l : List Rt} : ∀ {m : Nat}, m ≤ l.length → (∀ j, 0 < j → j < m → getA zR l j ≠ getA zR l (j - 1)) → kpL l m = l.take m
  | 0, _, _ => by rw [kpL_zero]; simp
  | m + 1, h, h2 => by
    rw [kpL_t, kpL_all (by omega) (fun j h3 h4 => h2 j h3 (by omega)), take_next zR (by omega)]
    by_cases h3 : m = 0
    · exact .inl h3
    · exact .inr (h2 m (by omega) (by omega))
/-- the last one of those that are kept is the last one -/
theorem kpL_last {l : List Rt} : ∀ {m : Nat}, 0 < m → (kpL l m).getLast? = some (getA zR l (m - 1))
  | 0, h => by omega
  | 1, _ => by rw [kpL_t (.inl rfl), kpL_zero]; rfl
  | m + 2, _ => by
    rw [kpL_step]; split
    · simp
    · rename_i h
      rw [kpL_last (by omega)]
      have : getA zR l (m + 1) = getA zR l (m + 1 - 1) := by
        by_cases h1 : getA zR l (m + 1) = getA zR l (m + 1 - 1)
        · exact h1
        · exact (h (.inr h1)).elim
      rw [show m + 2 - 1 = m + 1 by omega, this]
theorem kpL_mem {l : List Rt} : ∀ {m : Nat} {x : Rt}, x ∈ kpL l m ↔ ∃ j, j < m ∧ getA zR l j = x
  | 0, x => by rw [kpL_zero]; simp
  | m + 1, x => by
    rw [kpL_step]
    constructor
    · intro h
      split at h
      · rcases List.mem_append.1 h with h | h
        · obtain ⟨j, h1, h2⟩ := kpL_mem.1 h
          exact ⟨j, by omega, h2⟩
        · exact ⟨m, by omega, by simpa using (List.mem_singleton.1 h).symm⟩
      · obtain ⟨j, h1, h2⟩ := kpL_mem.1 h
        exact ⟨j, by omega, h2⟩
    · rintro ⟨j, h1, h2⟩
      by_cases hj : j < m
      · have := kpL_mem.2 ⟨j, hj, h2⟩
        split
        · exact List.mem_append.2 (.inl this)
        · exact this
      · have : j = m := by omega
        subst this
        split
        · exact List.mem_append.2 (.inr (by simp [h2]))
        · rename_i h
          have h0 : 0 < j := by
            rcases Nat.eq_zero_or_pos j with h0 | h0
            · exact (h (.inl h0)).elim
            · exact h0
          have h3 : getA zR l j = getA zR l (j - 1) := by
            by_cases h1 : getA zR l j = getA zR l (j - 1)
            · exact h1
            · exact (h (.inr h1)).elim
          exact kpL_mem.2 ⟨j - 1, by omega, by rw [← h3]; exact h2⟩
theorem kpL_ss {l : List Rt} (hg : Gd l) (hs : ∀ i, i + 1 < l.length → qR (getA zR l i) ≤ qR (getA zR l (i + 1))) : ∀ {m : Nat}, m ≤ l.length → SS (kpL l m) ∧ ∀ x ∈ kpL l m, ∀ h : 0 < m, qR x ≤ qR (getA zR l (m - 1))
  | 0, _ => by rw [kpL_zero]; exact ⟨SS.nil, fun _ h => by cases h⟩
  | m + 1, h => by
    obtain ⟨h1, h2⟩ := kpL_ss hg hs (m := m) (by omega)
    rw [kpL_step]
    split
    · rename_i h3
      have lt : ∀ x ∈ kpL l m, qR x < qR (getA zR l m) := by
        intro x hx
        have hm : 0 < m := by
          rcases Nat.eq_zero_or_pos m with h0 | h0
          · subst h0; rw [kpL_zero] at hx; cases hx
          · exact h0
        have h4 := h2 x hx hm
        have h5 := hs (m - 1) (by omega)
        rw [show m - 1 + 1 = m by omega] at h5
        have h6 : getA zR l m ≠ getA zR l (m - 1) := by
          rcases h3 with h3 | h3
          · omega
          · exact h3
        have h7 : qR (getA zR l (m - 1)) ≠ qR (getA zR l m) := fun e => h6 (q_inj (hg _ (getA_mem _ (by omega))) (hg _ (getA_mem _ (by omega))) e.symm)
        grind
      refine ⟨List.pairwise_append.2 ⟨h1, List.pairwise_singleton .., fun a ha b hb => ?_⟩, fun x hx _ => ?_⟩
      · rw [List.mem_singleton.1 hb]; exact lt a ha
      · rw [show m + 1 - 1 = m by omega]
        rcases List.mem_append.1 hx with hx | hx
        · have := lt x hx; grind
        · rw [List.mem_singleton.1 hx]; grind
    · rename_i h3
      refine ⟨h1, fun x hx _ => ?_⟩
      have hm : 0 < m := by
        rcases Nat.eq_zero_or_pos m with h0 | h0
        · exact (h3 (.inl h0)).elim
        · exact h0
      have h4 := h2 x hx hm
      have h5 := hs (m - 1) (by omega)
      rw [show m - 1 + 1 = m by omega] at h5
      rw [show m + 1 - 1 = m by omega]
      grind
/-- sorting and leaving out repeats: the same as putting in one by one -/
theorem kpL_puts {l m : List Rt} (hg : Gd l) (hs : ∀ i, i + 1 < l.length → qR (getA zR l i) ≤ qR (getA zR l (i + 1))) (hp : l.Perm m) : kpL l l.length = putsL [] m := by
  have hgm : Gd m := fun x hx => hg x (hp.mem_iff.2 hx)
  refine SS.uniq (kpL_ss hg hs (Nat.le_refl _)).1 (putsL_ss Gd.nil hgm SS.nil) fun x => ?_
  rw [kpL_mem, putsL_mem]
  constructor
  · rintro ⟨j, h1, h2⟩
    exact .inr (hp.mem_iff.1 (by rw [← h2]; exact getA_mem _ h1))
  · rintro (h | h)
    · cases h
    · obtain ⟨j, h1, h2⟩ := List.getElem_of_mem (hp.mem_iff.2 h)
      exact ⟨j, h1, by rw [getA_eq]; simp [List.getD, h1, h2]⟩
end Go.Vx
namespace Go.Vx
open Go
set_option maxRecDepth 100000
set_option linter.unusedSimpArgs false
set_option linter.unusedVariables false

theorem q_eq {a b : Rt} (ha : goodRt a = true) (hb : goodRt b = true) (h : qR a = qR b) : a = b := by
  have h1 := q_lt ha hb
  have h2 := q_lt hb ha
  have h3 : ¬ qR a < qR b := by grind
  have h4 : ¬ qR b < qR a := by grind
  apply good_eq ha hb
  have h5 : ¬ a.num * b.den < b.num * a.den := fun h => h3 (h1.1 h)
  have h6 : ¬ b.num * a.den < a.num * b.den := fun h => h4 (h2.1 h)
  omega
theorem q_pos {r : Rt} (h : goodRt r = true) : 0 < r.num ↔ 0 < qR r := by
  have h1 := q_lt good_zero h
  rw [q_zero] at h1
  dsimp only at h1
  rw [← h1]; omega
/-- a slope is greater than 0 if the values rise -/
theorem sl_pos {p q : Pt} (hp : ptOk p = true) (hq : ptOk q = true) (h : ltR p.x q.x) : 0 < (slR p q).num ↔ ltR p.y q.y := by
  obtain ⟨s1, s2, s3⟩ := slR_ok hp hq h
  rw [ptOk_iff] at hp hq
  have gx := coord_good hp.1
  have gy := coord_good hp.2
  have gX := coord_good hq.1
  have gY := coord_good hq.2
  have l1 := (q_lt gx gX).1 h
  rw [q_pos s2, show ltR p.y q.y ↔ qR p.y < qR q.y from q_lt gy gY]
  constructor
  · intro h2
    have := Rat.mul_pos h2 (show 0 < qR q.x - qR p.x by grind); grind
  · intro h2
    by_cases h3 : 0 < qR (slR p q)
    · exact h3
    · by_cases h4 : qR (slR p q) = 0
      · rw [h4] at s3; grind
      · have := Rat.mul_pos (show 0 < -qR (slR p q) by grind) (show 0 < qR q.x - qR p.x by grind); grind
def exR (f : List Pt) : List Pt := f.map fun p => ⟨p.y, p.x⟩
theorem exR_length (f : List Pt) : (exR f).length = f.length := by simp [exR]
theorem exR_get {f : List Pt} {i : Nat} (h : i < f.length) : getA zP (exR f) i = ⟨(getA zP f i).y, (getA zP f i).x⟩ := getA_map _ zP zP f i h
noncomputable def chOk (h : List Pt) : Bool := mapOk h && (eqRt (getA zP h 0).y ⟨0, 1⟩ && (eqRt (getA zP h (h.length - 1)).y ⟨1, 1⟩ && risR (h.map Pt.y)))
theorem chOk_iff {h : List Pt} : chOk h = true ↔ (mapOk h = true ∧ (getA zP h 0).y = ⟨0, 1⟩ ∧ (getA zP h (h.length - 1)).y = ⟨1, 1⟩ ∧ ∀ i, i + 1 < h.length → ltR (getA zP h i).y (getA zP h (i + 1)).y) := by
  unfold chOk
  simp only [Bool.and_eq_true, risR_iff, List.length_map, show ∀ a b, (eqRt a b = true) = (a = b) from fun a b => by unfold eqRt; simp]
  constructor
  · intro ⟨h1, h2, h3, h4⟩
    refine ⟨h1, h2, h3, fun i hi => ?_⟩
    have := h4 i hi
    rwa [getA_map Pt.y zP _ _ _ (by omega), getA_map Pt.y zP _ _ _ (by omega)] at this
  · intro ⟨h1, h2, h3, h4⟩
    refine ⟨h1, h2, h3, fun i hi => ?_⟩
    rw [getA_map Pt.y zP _ _ _ (by omega), getA_map Pt.y zP _ _ _ (by omega)]
    exact h4 i hi
theorem ex_map {h : List Pt} (hc : chOk h = true) : mapOk (exR h) = true := by
  obtain ⟨h1, h2, h3, h4⟩ := chOk_iff.1 hc
  obtain ⟨m1, m2, m3, m4, m5⟩ := mapOk_iff.1 h1
  rw [mapOk_iff, exR_length]
  refine ⟨m1, fun p hp => ?_, ?_, ?_, fun i hi => ?_⟩
  · obtain ⟨q, hq, rfl⟩ := List.mem_map.1 hp
    have := ptOk_iff.1 (m2 q hq)
    exact ptOk_iff.2 ⟨this.2, this.1⟩
  · rw [exR_get (by omega)]; exact h2
  · rw [exR_get (by omega)]; exact h3
  · rw [exR_get (by omega), exR_get hi]; exact h4 i hi

/-- X + (y - Y) / s -/
noncomputable def backR (p : Pt) (s y : Rt) : Rt × Bool := match (subRt y p.y).2 with
  | true => match (divRt (subRt y p.y).1 s).2 with
    | true => addRt p.x (divRt (subRt y p.y).1 s).1
    | false => (⟨0, 0⟩, false)
  | false => (⟨0, 0⟩, false)
noncomputable def backO (p : Pt) (s y : Rt) : Rt := opR (addRt p.x (opR (divRt (opR (subRt y p.y)) s)))
theorem backR_1 {p : Pt} {s y : Rt} (h : (subRt y p.y).2 = false) : backR p s y = (⟨0, 0⟩, false) := by unfold backR; rw [h]
theorem backR_2 {p : Pt} {s y : Rt} (h1 : (subRt y p.y).2 = true) (h : (divRt (subRt y p.y).1 s).2 = false) : backR p s y = (⟨0, 0⟩, false) := by unfold backR; rw [h1, h]
theorem backR_3 {p : Pt} {s y : Rt} (h1 : (subRt y p.y).2 = true) (h : (divRt (subRt y p.y).1 s).2 = true) : backR p s y = addRt p.x (divRt (subRt y p.y).1 s).1 := by unfold backR; rw [h1, h]
theorem backR_bad {p : Pt} {s y : Rt} (h : (backR p s y).2 = false) : backR p s y = (⟨0, 0⟩, false) := by
  cases h1 : (subRt y p.y).2 with
  | false => exact backR_1 h1
  | true => cases h2 : (divRt (subRt y p.y).1 s).2 with
    | false => exact backR_2 h1 h2
    | true => rw [backR_3 h1 h2] at h ⊢; exact lowRt_bad h
theorem back_flag (c : Bool) (p : Pt) (s y : Rt) : (((c || !(subRt y p.y).2) || !(divRt (opR (subRt y p.y)) s).2) || !(addRt p.x (opR (divRt (opR (subRt y p.y)) s))).2) = (c || !(backR p s y).2) := by
  cases h1 : (subRt y p.y).2 with
  | false => rw [backR_1 h1]; simp
  | true =>
    rw [opR_t h1]
    cases h2 : (divRt (subRt y p.y).1 s).2 with
    | false => rw [backR_2 h1 h2]; simp
    | true => rw [backR_3 h1 h2, opR_t h2]; simp
theorem backO_t {p : Pt} {s y : Rt} (h : (backR p s y).2 = true) : backO p s y = (backR p s y).1 := by
  cases h1 : (subRt y p.y).2 with
  | false => rw [backR_1 h1] at h; cases h
  | true =>
    cases h2 : (divRt (subRt y p.y).1 s).2 with
    | false => rw [backR_2 h1 h2] at h; cases h
    | true =>
      rw [backR_3 h1 h2] at h ⊢
      unfold backO
      rw [opR_t h1, opR_t h2, opR_t h]
/-- where a rising piece has a value between its ends lies between them -/
theorem back_unit {p q : Pt} {y : Rt} (hp : ptOk p = true) (hq : ptOk q = true) (h : ltR p.x q.x) (hr : ltR p.y q.y) (hy : goodRt y = true) (h1 : ¬ ltR y p.y) (h2 : ¬ ltR q.y y) (ho : (backR p (slR p q) y).2 = true) : unitRt (backR p (slR p q) y).1 = true := by
  obtain ⟨s1, s2, s3⟩ := slR_ok hp hq h
  have s4 := (sl_pos hp hq h).2 hr
  have s5 := (q_pos s2).1 s4
  rw [ptOk_iff] at hp hq
  have gx := coord_good hp.1
  have gy := coord_good hp.2
  have gX := coord_good hq.1
  have gY := coord_good hq.2
  cases e1 : (subRt y p.y).2 with
  | false => rw [backR_1 e1] at ho; cases ho
  | true =>
    cases e2 : (divRt (subRt y p.y).1 (slR p q)).2 with
    | false => rw [backR_2 e1 e2] at ho; cases ho
    | true =>
      rw [backR_3 e1 e2] at ho ⊢
      have g1 : goodRt (subRt y p.y).1 = true := lowRt_good1 e1
      have g2 : goodRt (divRt (subRt y p.y).1 (slR p q)).1 = true := lowRt_good1 e2
      have g3 : goodRt (addRt p.x (divRt (subRt y p.y).1 (slR p q)).1).1 = true := lowRt_good1 ho
      have d := q_div g1 s2 (by omega) e2
      rw [q_sub hy gy e1] at d
      rw [q_unit g3, q_add gx g2 ho]
      have l1 := (q_lt gx gX).1 h
      have l2 : qR p.y ≤ qR y := Rat.not_lt.1 fun hh => h1 ((q_lt hy gy).2 hh)
      have l3 : qR y ≤ qR q.y := Rat.not_lt.1 fun hh => h2 ((q_lt gY hy).2 hh)
      have u1 := (q_unit gx).1 (coord_unit hp.1)
      have u2 := (q_unit gX).1 (coord_unit hq.1)
      have n1 : 0 ≤ qR (divRt (subRt y p.y).1 (slR p q)).1 := by
        by_cases h6 : qR (divRt (subRt y p.y).1 (slR p q)).1 < 0
        · have := Rat.mul_pos (show 0 < -qR (divRt (subRt y p.y).1 (slR p q)).1 by grind) s5; grind
        · grind
      have n2 : qR (divRt (subRt y p.y).1 (slR p q)).1 ≤ qR q.x - qR p.x := by
        by_cases h6 : qR q.x - qR p.x < qR (divRt (subRt y p.y).1 (slR p q)).1
        · have := Rat.mul_pos (show 0 < qR (divRt (subRt y p.y).1 (slR p q)).1 - (qR q.x - qR p.x) by grind) s5; grind
        · grind
      constructor <;> grind
/-- where a change has a value -/
@[irreducible] noncomputable def chB (h : List Pt) (y : Rt) : Rt × Bool := backR (getA zP h (pcN (exR h) y)) (slR (getA zP h (pcN (exR h) y)) (getA zP h (pcN (exR h) y + 1))) y
@[irreducible] noncomputable def chO (h : List Pt) (y : Rt) : Rt := backO (getA zP h (pcN (exR h) y)) (slR (getA zP h (pcN (exR h) y)) (getA zP h (pcN (exR h) y + 1))) y
theorem chB_bad {h : List Pt} {y : Rt} (hb : (chB h y).2 = false) : chB h y = (⟨0, 0⟩, false) := by unfold chB at hb ⊢; exact backR_bad hb
theorem chO_t {h : List Pt} {y : Rt} (hb : (chB h y).2 = true) : chO h y = (chB h y).1 := by unfold chB at hb ⊢; unfold chO; exact backO_t hb
theorem ch_piece {h : List Pt} {y : Rt} (hc : chOk h = true) (hy : unitRt y = true) : pcN (exR h) y + 1 < h.length ∧ ¬ ltR y (getA zP h (pcN (exR h) y)).y ∧ ¬ ltR (getA zP h (pcN (exR h) y + 1)).y y := by
  obtain ⟨p1, p2, p3, p4⟩ := pc_spec (ex_map hc) hy
  rw [exR_length] at p1
  rw [exR_get (by omega)] at p2
  rw [exR_get (by omega)] at p3
  exact ⟨p1, p2, p3⟩
theorem chB_unit {h : List Pt} {y : Rt} (hc : chOk h = true) (hy : unitRt y = true) (hb : (chB h y).2 = true) : unitRt (chB h y).1 = true := by
  obtain ⟨p1, p2, p3⟩ := ch_piece hc hy
  obtain ⟨h1, h2, h3, h4⟩ := chOk_iff.1 hc
  obtain ⟨m1, m2, m3, m4, m5⟩ := mapOk_iff.1 h1
  unfold chB at hb ⊢
  exact back_unit (map_pt h1 (by omega)) (map_pt h1 (by omega)) (m5 _ p1) (h4 _ p1) (unit_good hy) p2 p3 hb
end Go.Vx
