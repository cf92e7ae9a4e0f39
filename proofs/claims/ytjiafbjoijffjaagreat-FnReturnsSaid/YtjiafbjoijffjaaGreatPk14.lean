/- Maps: slopes, pieces and values. -/
import Derived.Test.YtjiafbjoijffjaaGreatPk13
namespace Go.Vx
open Go
set_option maxRecDepth 100000
set_option linter.unusedSimpArgs false
set_option linter.unusedVariables false

theorem q_low {n d : Int} (h0 : d ≠ 0) (h : (lowRt n d).2 = true) : qR (lowRt n d).1 = (n : Rat) / (d : Rat) := by
  have h1 := low_val h
  have h2 := den_pos (lowRt_good1 h)
  have h3 : (d : Rat) ≠ 0 := fun h => h0 (Rat.intCast_eq_zero_iff.1 h)
  have h4 : ((lowRt n d).1.num : Rat) * (d : Rat) = (n : Rat) * ((lowRt n d).1.den : Rat) := by
    rw [← Rat.intCast_mul, h1, Rat.intCast_mul]
  unfold qR
  have h5 : ((lowRt n d).1.den : Rat) ≠ 0 := by grind
  grind
theorem q_sub {a b : Rt} (ha : goodRt a = true) (hb : goodRt b = true) (h : (subRt a b).2 = true) : qR (subRt a b).1 = qR a - qR b := by
  have h1 := denmul ha hb
  have h2 := den_pos ha
  have h3 := den_pos hb
  unfold subRt at h ⊢
  rw [q_low (by omega) h]
  unfold qR
  rw [Rat.intCast_sub, Rat.intCast_mul, Rat.intCast_mul, Rat.intCast_mul]
  grind
theorem q_add {a b : Rt} (ha : goodRt a = true) (hb : goodRt b = true) (h : (addRt a b).2 = true) : qR (addRt a b).1 = qR a + qR b := by
  have h1 := denmul ha hb
  have h2 := den_pos ha
  have h3 := den_pos hb
  unfold addRt at h ⊢
  rw [q_low (by omega) h]
  unfold qR
  rw [Rat.intCast_add, Rat.intCast_mul, Rat.intCast_mul, Rat.intCast_mul]
  grind
theorem q_mul {a b : Rt} (ha : goodRt a = true) (hb : goodRt b = true) (h : (mulRt a b).2 = true) : qR (mulRt a b).1 = qR a * qR b := by
  have h1 := denmul ha hb
  have h2 := den_pos ha
  have h3 := den_pos hb
  unfold mulRt at h ⊢
  rw [q_low (by omega) h]
  unfold qR
  rw [Rat.intCast_mul, Rat.intCast_mul]
  grind
theorem q_div {a b : Rt} (ha : goodRt a = true) (hb : goodRt b = true) (hb0 : b.num ≠ 0) (h : (divRt a b).2 = true) : qR (divRt a b).1 * qR b = qR a := by
  have h2 := den_pos ha
  have h3 := den_pos hb
  have h5 : (b.num : Rat) ≠ 0 := fun h => hb0 (Rat.intCast_eq_zero_iff.1 h)
  have h1 := (goodRt_iff.1 ha).1
  unfold divRt at h ⊢
  rw [q_low (by intro h; rcases Int.mul_eq_zero.1 h with h | h <;> omega) h]
  unfold qR
  rw [Rat.intCast_mul, Rat.intCast_mul]
  grind
theorem low_bd {n d : Int} (h : (lowRt n d).2 = true) : (lowRt n d).1.num.natAbs ≤ n.natAbs ∧ (lowRt n d).1.den ≤ d.natAbs := by
  cases hg : goodRt ⟨n.tdiv (gsgn n d), d.tdiv (gsgn n d)⟩ with
  | false => rw [lowRt_f hg] at h; cases h
  | true =>
    rw [lowRt_t hg]
    have := @tdiv_bd n (gsgn n d)
    have := @tdiv_bd d (gsgn n d)
    exact ⟨by omega, by dsimp only; omega⟩
abbrev ltR (a b : Rt) : Prop := a.num * b.den < b.num * a.den
theorem q_zero : qR ⟨0, 1⟩ = 0 := by unfold qR; dsimp only; grind
theorem q_one : qR ⟨1, 1⟩ = 1 := by unfold qR; dsimp only; grind
theorem q_unit {r : Rt} (h : goodRt r = true) : unitRt r = true ↔ (0 ≤ qR r ∧ qR r ≤ 1) := by
  have h1 := q_lt h good_zero
  have h2 := q_lt good_one h
  rw [q_zero] at h1
  rw [q_one] at h2
  dsimp only at h1 h2
  rw [unitRt_iff]
  constructor
  · intro ⟨_, h3, h4⟩
    constructor
    · by_cases h6 : qR r < 0
      · have := h1.2 h6; omega
      · grind
    · by_cases h6 : 1 < qR r
      · have := h2.2 h6; omega
      · grind
  · intro ⟨h3, h4⟩
    refine ⟨h, ?_, ?_⟩
    · rcases Int.lt_or_le r.num 0 with h5 | h5
      · have := h1.1 (by omega); grind
      · exact h5
    · rcases Int.lt_or_le r.den r.num with h5 | h5
      · have := h2.1 (by omega); grind
      · exact h5

abbrev zP : Pt := ⟨⟨0, 0⟩, ⟨0, 0⟩⟩
noncomputable def coordRt (r : Rt) : Bool := unitRt r && decide (r.den ≤ 100)
noncomputable def ptOk (p : Pt) : Bool := coordRt p.x && coordRt p.y
def risR (l : List Rt) : Bool := (List.range (l.length - 1)).all fun i => lessRt (getA zR l i) (getA zR l (i + 1))
noncomputable def mapOk (f : List Pt) : Bool := inB f.length 2 12 && (f.all ptOk && (decide ((getA zP f 0).x = ⟨0, 1⟩) && (decide ((getA zP f (f.length - 1)).x = ⟨1, 1⟩) && risR (f.map Pt.x))))
theorem coord_iff {r : Rt} : coordRt r = true ↔ (goodRt r = true ∧ 0 ≤ r.num ∧ r.num ≤ r.den ∧ 1 ≤ r.den ∧ r.den ≤ 100) := by
  unfold coordRt
  rw [Bool.and_eq_true, unitRt_iff, decide_eq_true_eq]
  constructor
  · intro ⟨⟨h1, h2, h3⟩, h4⟩; exact ⟨h1, h2, h3, (goodRt_iff.1 h1).1, h4⟩
  · intro ⟨h1, h2, h3, _, h4⟩; exact ⟨⟨h1, h2, h3⟩, h4⟩
theorem ptOk_iff {p : Pt} : ptOk p = true ↔ (coordRt p.x = true ∧ coordRt p.y = true) := by
  unfold ptOk; rw [Bool.and_eq_true]
theorem coord_good {r : Rt} (h : coordRt r = true) : goodRt r = true := (coord_iff.1 h).1
theorem coord_unit {r : Rt} (h : coordRt r = true) : unitRt r = true := by
  have := coord_iff.1 h; exact unitRt_iff.2 ⟨this.1, this.2.1, this.2.2.1⟩
theorem unit_good {r : Rt} (h : unitRt r = true) : goodRt r = true := (unitRt_iff.1 h).1
theorem getA_map {α β : Type} (g : α → β) (d : α) (e : β) (l : List α) (i : Nat) (h : i < l.length) : getA e (l.map g) i = g (getA d l i) := by
  rw [getA_lt _ _ _ (by simpa using h), getA_lt _ _ _ h, List.getElem_map]
theorem risR_iff {l : List Rt} : risR l = true ↔ ∀ i, i + 1 < l.length → ltR (getA zR l i) (getA zR l (i + 1)) := by
  unfold risR
  rw [List.all_eq_true]
  constructor
  · intro h i hi
    have := h i (List.mem_range.2 (by omega))
    simpa [lessRt] using this
  · intro h i hi
    have := h i (by have := List.mem_range.1 hi; omega)
    simpa [lessRt] using this
theorem mapOk_iff {f : List Pt} : mapOk f = true ↔ ((2 ≤ f.length ∧ f.length ≤ 12) ∧ (∀ p ∈ f, ptOk p = true) ∧ (getA zP f 0).x = ⟨0, 1⟩ ∧ (getA zP f (f.length - 1)).x = ⟨1, 1⟩ ∧ ∀ i, i + 1 < f.length → ltR (getA zP f i).x (getA zP f (i + 1)).x) := by
  unfold mapOk inB
  simp only [Bool.and_eq_true, decide_eq_true_eq, List.all_eq_true, risR_iff, List.length_map]
  constructor
  · intro ⟨h1, h2, h3, h4, h5⟩
    refine ⟨by omega, h2, h3, h4, fun i hi => ?_⟩
    have := h5 i hi
    rwa [getA_map Pt.x zP _ _ _ (by omega), getA_map Pt.x zP _ _ _ (by omega)] at this
  · intro ⟨h1, h2, h3, h4, h5⟩
    refine ⟨by omega, h2, h3, h4, fun i hi => ?_⟩
    rw [getA_map Pt.x zP _ _ _ (by omega), getA_map Pt.x zP _ _ _ (by omega)]
    exact h5 i hi
theorem map_pt {f : List Pt} (h : mapOk f = true) {i : Nat} (hi : i < f.length) : ptOk (getA zP f i) = true := (mapOk_iff.1 h).2.1 _ (getA_mem _ hi)

/-- the slope of a piece -/
noncomputable def slR (p q : Pt) : Rt := (divRt (subRt q.y p.y).1 (subRt q.x p.x).1).1
theorem sub_coord {a b : Rt} (ha : coordRt a = true) (hb : coordRt b = true) : (subRt a b).2 = true ∧ goodRt (subRt a b).1 = true ∧ (-10000 ≤ (subRt a b).1.num ∧ (subRt a b).1.num ≤ 10000) ∧ (1 ≤ (subRt a b).1.den ∧ (subRt a b).1.den ≤ 10000) := by
  have h1 := coord_iff.1 ha
  have h2 := coord_iff.1 hb
  have m1 := mul_bd (A := 100) (B := 100) (a := a.num) (b := b.den) (by omega) (by omega) (by omega) (by omega) (by omega)
  have m2 := mul_bd (A := 100) (B := 100) (a := b.num) (b := a.den) (by omega) (by omega) (by omega) (by omega) (by omega)
  have m3 := mul_bd (A := 100) (B := 100) (a := a.den) (b := b.den) (by omega) (by omega) (by omega) (by omega) (by omega)
  have m4 := Int.mul_nonneg (a := a.num) (b := b.den) (by omega) (by omega)
  have m5 := Int.mul_nonneg (a := b.num) (b := a.den) (by omega) (by omega)
  have m6 := Int.mul_pos (a := a.den) (b := b.den) (by omega) (by omega)
  have s : (subRt a b).2 = true := by unfold subRt; exact low_small (by omega) (by omega) (by omega)
  have g : goodRt (subRt a b).1 = true := lowRt_good1 s
  have := low_bd s
  have := (goodRt_iff.1 g).1
  unfold subRt at *
  exact ⟨s, g, by omega, by omega⟩
theorem sub_num_pos {a b : Rt} (ha : goodRt a = true) (hb : goodRt b = true) (hs : (subRt a b).2 = true) (h : ltR b a) : 0 < (subRt a b).1.num := by
  have e := low_val hs
  have g := (goodRt_iff.1 (lowRt_good1 hs)).1
  have d := denmul ha hb
  have h1 : 0 < a.num * b.den - b.num * a.den := by have : b.num * a.den < a.num * b.den := h; omega
  have h2 := Int.mul_pos h1 (b := (lowRt (a.num * b.den - b.num * a.den) (a.den * b.den)).1.den) (by omega)
  rw [← e] at h2
  unfold subRt
  rcases Int.lt_or_le 0 (lowRt (a.num * b.den - b.num * a.den) (a.den * b.den)).1.num with h3 | h3
  · exact h3
  · have := Int.mul_nonpos_of_nonpos_of_nonneg h3 (show 0 ≤ a.den * b.den by omega); omega
theorem slR_ok {p q : Pt} (hp : ptOk p = true) (hq : ptOk q = true) (h : ltR p.x q.x) :
    (divRt (subRt q.y p.y).1 (subRt q.x p.x).1).2 = true ∧ goodRt (slR p q) = true ∧ qR (slR p q) * (qR q.x - qR p.x) = qR q.y - qR p.y := by
  rw [ptOk_iff] at hp hq
  obtain ⟨a1, a2, a3, a4⟩ := sub_coord hq.2 hp.2
  obtain ⟨b1, b2, b3, b4⟩ := sub_coord hq.1 hp.1
  have b5 := sub_num_pos (coord_good hq.1) (coord_good hp.1) b1 h
  have m1 := mul_bd (A := 10000) (B := 10000) (a := (subRt q.y p.y).1.num) (b := (subRt q.x p.x).1.den) (by omega) (by omega) (by omega) (by omega) (by omega)
  have m3 := mul_bd (A := 10000) (B := 10000) (a := (subRt q.y p.y).1.den) (b := (subRt q.x p.x).1.num) (by omega) (by omega) (by omega) (by omega) (by omega)
  have m6 := Int.mul_pos (a := (subRt q.y p.y).1.den) (b := (subRt q.x p.x).1.num) (by omega) (by omega)
  have s : (divRt (subRt q.y p.y).1 (subRt q.x p.x).1).2 = true := by unfold divRt; exact low_small (by omega) (by omega) (by omega)
  refine ⟨s, lowRt_good1 s, ?_⟩
  have e := q_div a2 b2 (by omega) s
  rw [q_sub (coord_good hq.2) (coord_good hp.2) a1, q_sub (coord_good hq.1) (coord_good hp.1) b1] at e
  exact e

/-- the slopes of the first pieces -/
noncomputable def slL (f : List Pt) (n : Nat) : List Rt := (List.range n).map fun i => slR (getA zP f i) (getA zP f (i + 1))
theorem slL_length (f : List Pt) (n : Nat) : (slL f n).length = n := by simp [slL]
theorem slL_succ (f : List Pt) (n : Nat) : slL f n ++ [slR (getA zP f n) (getA zP f (n + 1))] = slL f (n + 1) := by
  unfold slL; rw [List.range_succ, List.map_append]; rfl
/-- Y + s (x - X) -/
noncomputable def lineR (p : Pt) (s x : Rt) : Rt × Bool := match (subRt x p.x).2 with
  | true => match (mulRt s (subRt x p.x).1).2 with
    | true => addRt p.y (mulRt s (subRt x p.x).1).1
    | false => (⟨0, 0⟩, false)
  | false => (⟨0, 0⟩, false)
noncomputable def lineO (p : Pt) (s x : Rt) : Rt := opR (addRt p.y (opR (mulRt s (opR (subRt x p.x)))))
theorem lineR_1 {p : Pt} {s x : Rt} (h : (subRt x p.x).2 = false) : lineR p s x = (⟨0, 0⟩, false) := by unfold lineR; rw [h]
theorem lineR_2 {p : Pt} {s x : Rt} (h1 : (subRt x p.x).2 = true) (h : (mulRt s (subRt x p.x).1).2 = false) : lineR p s x = (⟨0, 0⟩, false) := by unfold lineR; rw [h1, h]
theorem lineR_3 {p : Pt} {s x : Rt} (h1 : (subRt x p.x).2 = true) (h : (mulRt s (subRt x p.x).1).2 = true) : lineR p s x = addRt p.y (mulRt s (subRt x p.x).1).1 := by unfold lineR; rw [h1, h]
theorem lineR_bad {p : Pt} {s x : Rt} (h : (lineR p s x).2 = false) : lineR p s x = (⟨0, 0⟩, false) := by
  cases h1 : (subRt x p.x).2 with
  | false => exact lineR_1 h1
  | true => cases h2 : (mulRt s (subRt x p.x).1).2 with
    | false => exact lineR_2 h1 h2
    | true => rw [lineR_3 h1 h2] at h ⊢; exact lowRt_bad h
theorem opR_p (a : Rt) : opR (a, true) = a := opR_t rfl
theorem opR_f {r : Rt × Bool} (h : r.2 = false) : opR r = ⟨0, 1⟩ := by unfold opR; rw [h]
theorem line_flag (c : Bool) (p : Pt) (s x : Rt) : (((c || !(subRt x p.x).2) || !(mulRt s (opR (subRt x p.x))).2) || !(addRt p.y (opR (mulRt s (opR (subRt x p.x))))).2) = (c || !(lineR p s x).2) := by
  cases h1 : (subRt x p.x).2 with
  | false => rw [lineR_1 h1]; simp
  | true =>
    rw [opR_t h1]
    cases h2 : (mulRt s (subRt x p.x).1).2 with
    | false => rw [lineR_2 h1 h2]; simp
    | true => rw [lineR_3 h1 h2, opR_t h2]; simp
theorem lineO_t {p : Pt} {s x : Rt} (h : (lineR p s x).2 = true) : lineO p s x = (lineR p s x).1 := by
  cases h1 : (subRt x p.x).2 with
  | false => rw [lineR_1 h1] at h; cases h
  | true =>
    cases h2 : (mulRt s (subRt x p.x).1).2 with
    | false => rw [lineR_2 h1 h2] at h; cases h
    | true =>
      rw [lineR_3 h1 h2] at h ⊢
      unfold lineO
      rw [opR_t h1, opR_t h2, opR_t h]
theorem mul_zero_r {s : Rt} (h : goodRt s = true) : mulRt s ⟨0, 1⟩ = (⟨0, 1⟩, true) := by
  have h1 := goodRt_iff.1 h
  unfold mulRt
  dsimp only
  rw [Int.mul_zero, Int.mul_one]
  have hs := low_small (n := 0) (d := s.den) (by omega) (by omega) (by omega)
  have hg := lowRt_good1 hs
  have hv := low_val hs
  have e : (lowRt 0 s.den).1 = ⟨0, 1⟩ := good_eq hg good_zero (by
    dsimp only
    rw [Int.zero_mul] at hv ⊢
    rcases Int.mul_eq_zero.1 hv with h | h
    · rw [h]; rfl
    · omega)
  rw [pair_t hs, e]
theorem add_zero_r {a : Rt} (h : goodRt a = true) : addRt a ⟨0, 1⟩ = (a, true) := by
  unfold addRt
  dsimp only
  rw [Int.mul_one, Int.mul_one, Int.zero_mul, Int.add_zero]
  exact lowRt_good h
theorem unit_zero : unitRt ⟨0, 1⟩ = true := unitRt_iff.2 ⟨good_zero, by decide⟩
theorem unit_one : unitRt ⟨1, 1⟩ = true := unitRt_iff.2 ⟨good_one, by decide⟩
theorem lineO_bad {p : Pt} {s x : Rt} (hp : unitRt p.y = true) (hs : goodRt s = true) (h : (lineR p s x).2 = false) : unitRt (lineO p s x) = true := by
  unfold lineO
  cases h1 : (subRt x p.x).2 with
  | false =>
    rw [opR_f h1, mul_zero_r hs, opR_p, add_zero_r (unit_good hp), opR_p]; exact hp
  | true =>
    cases h2 : (mulRt s (subRt x p.x).1).2 with
    | false => rw [opR_t h1, opR_f h2, add_zero_r (unit_good hp), opR_p]; exact hp
    | true =>
      rw [lineR_3 h1 h2] at h
      rw [opR_t h1, opR_t h2, opR_f h]; exact unit_zero
/-- the value between two points lies between theirs -/
theorem line_unit {p q : Pt} {x : Rt} (hp : ptOk p = true) (hq : ptOk q = true) (h : ltR p.x q.x) (hx : goodRt x = true) (h1 : ¬ ltR x p.x) (h2 : ¬ ltR q.x x) (ho : (lineR p (slR p q) x).2 = true) : unitRt (lineR p (slR p q) x).1 = true := by
  obtain ⟨s1, s2, s3⟩ := slR_ok hp hq h
  rw [ptOk_iff] at hp hq
  have gx := coord_good hp.1
  have gy := coord_good hp.2
  have gX := coord_good hq.1
  have gY := coord_good hq.2
  cases e1 : (subRt x p.x).2 with
  | false => rw [lineR_1 e1] at ho; cases ho
  | true =>
    cases e2 : (mulRt (slR p q) (subRt x p.x).1).2 with
    | false => rw [lineR_2 e1 e2] at ho; cases ho
    | true =>
      rw [lineR_3 e1 e2] at ho ⊢
      have g1 : goodRt (subRt x p.x).1 = true := lowRt_good1 e1
      have g2 : goodRt (mulRt (slR p q) (subRt x p.x).1).1 = true := lowRt_good1 e2
      have g3 : goodRt (addRt p.y (mulRt (slR p q) (subRt x p.x).1).1).1 = true := lowRt_good1 ho
      rw [q_unit g3, q_add gy g2 ho, q_mul s2 g1 e2, q_sub hx gx e1]
      have l1 := (q_lt gx gX).1 h
      have l2 : qR p.x ≤ qR x := Rat.not_lt.1 fun hh => h1 ((q_lt hx gx).2 hh)
      have l3 : qR x ≤ qR q.x := Rat.not_lt.1 fun hh => h2 ((q_lt gX hx).2 hh)
      have u1 := (q_unit gy).1 (coord_unit hp.2)
      have u2 := (q_unit gY).1 (coord_unit hq.2)
      have m1 := Rat.mul_nonneg u1.1 (show 0 ≤ qR q.x - qR x by grind)
      have m2 := Rat.mul_nonneg u2.1 (show 0 ≤ qR x - qR p.x by grind)
      have m3 := Rat.mul_nonneg (show 0 ≤ 1 - qR p.y by grind) (show 0 ≤ qR q.x - qR x by grind)
      have m4 := Rat.mul_nonneg (show 0 ≤ 1 - qR q.y by grind) (show 0 ≤ qR x - qR p.x by grind)
      have lp : 0 < qR q.x - qR p.x := by grind
      have key : (qR p.y + qR (slR p q) * (qR x - qR p.x)) * (qR q.x - qR p.x) = qR p.y * (qR q.x - qR x) + qR q.y * (qR x - qR p.x) := by grind
      constructor
      · by_cases h6 : qR p.y + qR (slR p q) * (qR x - qR p.x) < 0
        · have := Rat.mul_pos (show 0 < -(qR p.y + qR (slR p q) * (qR x - qR p.x)) by grind) lp; grind
        · grind
      · by_cases h6 : 1 < qR p.y + qR (slR p q) * (qR x - qR p.x)
        · have := Rat.mul_pos (show 0 < (qR p.y + qR (slR p q) * (qR x - qR p.x)) - 1 by grind) lp; grind
        · grind

/-- the first piece that has x -/
def pcN (f : List Pt) (x : Rt) : Nat := (idxF (fun p : Pt => !lessRt p.x x) f - 1).toNat
theorem pc_spec {f : List Pt} {x : Rt} (h : mapOk f = true) (hx : unitRt x = true) : pcN f x + 1 < f.length ∧ ¬ ltR x (getA zP f (pcN f x)).x ∧ ¬ ltR (getA zP f (pcN f x + 1)).x x ∧ ∀ j, 0 < j → j ≤ pcN f x → ltR (getA zP f j).x x := by
  obtain ⟨h1, h2, h3, h4, h5⟩ := mapOk_iff.1 h
  have hu := unitRt_iff.1 hx
  have hden := (goodRt_iff.1 hu.1).1
  have hlast : (fun p : Pt => !lessRt p.x x) (getA zP f (f.length - 1)) = true := by
    dsimp only
    rw [h4]
    simp [lessRt]
    omega
  have hex : f.findIdx? (fun p : Pt => !lessRt p.x x) ≠ none := by
    rw [ne_eq, List.findIdx?_eq_none_iff]
    intro hn
    have h6 : (!lessRt (getA zP f (f.length - 1)).x x) = true := hlast
    rw [hn _ (getA_mem zP (by omega))] at h6
    cases h6
  cases hf : f.findIdx? (fun p : Pt => !lessRt p.x x) with
  | none => exact (hex hf).elim
  | some k =>
    obtain ⟨k1, k2, k3⟩ := List.findIdx?_eq_some_iff_getElem.1 hf
    have e : pcN f x = k - 1 := by unfold pcN idxF; rw [hf]; dsimp only; omega
    have k2' : ¬ ltR (getA zP f k).x x := by
      rw [getA_lt _ _ _ k1]; simpa [lessRt] using k2
    have k3' : ∀ j, j < k → ltR (getA zP f j).x x := by
      intro j hj
      have := k3 j hj
      rw [getA_lt _ _ _ (by omega)]; simpa [lessRt] using this
    rw [e]
    rcases Nat.eq_zero_or_pos k with hk | hk
    · subst hk
      have hx0 : x.num = 0 := by
        rw [h3] at k2'
        have : ¬ ((0 : Int) * x.den < x.num * 1) := k2'
        omega
      refine ⟨by omega, ?_, ?_, fun j hj hj2 => by omega⟩
      · rw [h3]
        show ¬ (x.num * 1 < 0 * x.den)
        omega
      · have hp := ptOk_iff.1 (h2 _ (getA_mem zP (l := f) (i := 1) (by omega)))
        have hc := coord_iff.1 hp.1
        show ¬ ((getA zP f (0 - 1 + 1)).x.num * x.den < x.num * (getA zP f (0 - 1 + 1)).x.den)
        have := Int.mul_nonneg hc.2.1 (show 0 ≤ x.den by omega)
        rw [hx0, Int.zero_mul]
        show ¬ ((getA zP f 1).x.num * x.den < 0)
        omega
    · have ek : k - 1 + 1 = k := by omega
      rw [ek]
      refine ⟨k1, ?_, k2', fun j hj hj2 => k3' j (by omega)⟩
      have := k3' (k - 1) (by omega)
      show ¬ (_ < _)
      have : (getA zP f (k - 1)).x.num * x.den < x.num * (getA zP f (k - 1)).x.den := this
      omega
/-- a piece found step by step is this piece -/
theorem pc_uniq {f : List Pt} {x : Rt} (h : mapOk f = true) (hx : unitRt x = true) {i : Nat} (h1 : ∀ j, 0 < j → j ≤ i → ltR (getA zP f j).x x) (h2 : ¬ (i + 2 < f.length ∧ ltR (getA zP f (i + 1)).x x)) (h3 : i + 1 < f.length) : i = pcN f x := by
  obtain ⟨p1, p2, p3, p4⟩ := pc_spec h hx
  rcases Nat.lt_trichotomy i (pcN f x) with h4 | h4 | h4
  · exact (h2 ⟨by omega, p4 (i + 1) (by omega) (by omega)⟩).elim
  · exact h4
  · exact (p3 (h1 (pcN f x + 1) (by omega) (by omega))).elim

/-- the value of a map -/
@[irreducible] noncomputable def vR (f : List Pt) (x : Rt) : Rt × Bool := lineR (getA zP f (pcN f x)) (slR (getA zP f (pcN f x)) (getA zP f (pcN f x + 1))) x
@[irreducible] noncomputable def vO (f : List Pt) (x : Rt) : Rt := lineO (getA zP f (pcN f x)) (slR (getA zP f (pcN f x)) (getA zP f (pcN f x + 1))) x
theorem vR_bad {f : List Pt} {x : Rt} (h : (vR f x).2 = false) : vR f x = (⟨0, 0⟩, false) := by unfold vR at h ⊢; exact lineR_bad h
theorem vO_t {f : List Pt} {x : Rt} (h : (vR f x).2 = true) : vO f x = (vR f x).1 := by unfold vR at h ⊢; unfold vO; exact lineO_t h
theorem vO_unit {f : List Pt} {x : Rt} (h : mapOk f = true) (hx : unitRt x = true) : unitRt (vO f x) = true := by
  obtain ⟨p1, p2, p3, p4⟩ := pc_spec h hx
  obtain ⟨h1, h2, h3, h4, h5⟩ := mapOk_iff.1 h
  have a1 := map_pt h (i := pcN f x) (by omega)
  have a2 := map_pt h (i := pcN f x + 1) (by omega)
  obtain ⟨s1, s2, s3⟩ := slR_ok a1 a2 (h5 _ p1)
  cases hv : (vR f x).2 with
  | true => rw [vO_t hv]; unfold vR at hv ⊢; exact line_unit a1 a2 (h5 _ p1) (unit_good hx) p2 p3 hv
  | false => unfold vR at hv; unfold vO; exact lineO_bad (coord_unit (ptOk_iff.1 a1).2) s2 hv
theorem vR_unit {f : List Pt} {x : Rt} (h : mapOk f = true) (hx : unitRt x = true) (hv : (vR f x).2 = true) : unitRt (vR f x).1 = true := by
  rw [← vO_t hv]; exact vO_unit h hx
end Go.Vx
namespace Go.Vx
open Go Go.Proofs
set_option maxRecDepth 100000
set_option linter.unusedSimpArgs false
set_option linter.unusedVariables false

noncomputable def s_impl_isCoord : Sig := ⟨160, [.val .rat], [.val .bool], fun ((r : Rt), _) => ⟨[], (coordRt r, ()), ()⟩⟩
noncomputable def s_spec_imCoord : Sig := ⟨163, [.val .rat], [.val .bool], fun ((r : Rt), _) => ⟨[], (coordRt r, ()), ()⟩⟩
theorem ok_impl_isCoord : GSpec Tryz.prog s_impl_isCoord := by
  refine fn_known tab_ok fol (Known.nil.cons ok_impl_isUnit (by kernel_rfl)) (by decide) Tryz.func160 ?_
  rintro ⟨⟨(n : Int), (d : Int)⟩, ⟨⟩⟩ hl _
  repeat' (first | with_reducible apply andAll_cons | with_reducible apply andAll_nil | (with_reducible apply Cf.mk; kernel_rfl) | apply And.intro | intro _ | exact True.intro | apply Lf.mk)
  all_goals (try simp only [Bool.not_eq_true', Bool.not_eq_false', Bool.not_not, decide_eq_true_eq, decide_eq_false_iff_not, beq_iff_eq, bne_iff_ne, beq_eq_false_iff_ne, bne_eq_false_iff_eq, ne_eq, Bool.and_eq_true, Bool.and_eq_false_iff, Bool.or_eq_true, Bool.or_eq_false_iff, Int.toNat_natCast, Nat.zero_add, Int.ofNat_lt, Int.ofNat_le, List.length_cons, List.length_nil, List.drop_zero, List.take_length] at *)
  all_goals (try change @Eq Bool _ _)
  all_goals (first | (simp_all [coordRt]; done) | (simp_all [coordRt]; omega))
theorem ok_spec_imCoord : GSpec Tryz.prog s_spec_imCoord := by
  refine fn_known tab_ok fol (Known.nil.cons ok_spec_raUnit (by kernel_rfl)) (by decide) Tryz.func163 ?_
  rintro ⟨⟨(n : Int), (d : Int)⟩, ⟨⟩⟩ hl _
  repeat' (first | with_reducible apply andAll_cons | with_reducible apply andAll_nil | (with_reducible apply Cf.mk; kernel_rfl) | apply And.intro | intro _ | exact True.intro | apply Lf.mk)
  all_goals (try simp only [Bool.not_eq_true', Bool.not_eq_false', Bool.not_not, decide_eq_true_eq, decide_eq_false_iff_not, beq_iff_eq, bne_iff_ne, beq_eq_false_iff_ne, bne_eq_false_iff_eq, ne_eq, Bool.and_eq_true, Bool.and_eq_false_iff, Bool.or_eq_true, Bool.or_eq_false_iff, Int.toNat_natCast, Nat.zero_add, Int.ofNat_lt, Int.ofNat_le, List.length_cons, List.length_nil, List.drop_zero, List.take_length] at *)
  all_goals (try change @Eq Bool _ _)
  all_goals (first | (simp_all [coordRt]; done) | (simp_all [coordRt]; omega))
noncomputable def s_impl_isMap_1 : Sig := ⟨159, [.val .pt], [.val .bool], fun ((p : Pt), _) => ⟨[], (!ptOk p, ()), ()⟩⟩
theorem ok_impl_isMap_1 : GSpec Tryz.prog s_impl_isMap_1 := by
  refine fn_known tab_ok fol (Known.nil.cons ok_impl_isCoord (by kernel_rfl)) (by decide) Tryz.func159 ?_
  rintro ⟨⟨⟨(n : Int), (d : Int)⟩, ⟨(m : Int), (e : Int)⟩⟩, ⟨⟩⟩ hl _
  repeat' (first | with_reducible apply andAll_cons | with_reducible apply andAll_nil | (with_reducible apply Cf.mk; kernel_rfl) | apply And.intro | intro _ | exact True.intro | apply Lf.mk)
  all_goals (try simp only [Bool.not_eq_true', Bool.not_eq_false', Bool.not_not, decide_eq_true_eq, decide_eq_false_iff_not, beq_iff_eq, bne_iff_ne, beq_eq_false_iff_ne, bne_eq_false_iff_eq, ne_eq, Bool.and_eq_true, Bool.and_eq_false_iff, Bool.or_eq_true, Bool.or_eq_false_iff, Int.toNat_natCast, Nat.zero_add, Int.ofNat_lt, Int.ofNat_le, List.length_cons, List.length_nil, List.drop_zero, List.take_length] at *)
  all_goals (try change @Eq Bool _ _)
  all_goals (simp_all [ptOk])
noncomputable def s_impl_xsOf : Sig := ⟨162, [.list .pt], [.list 26 .rat], fun ((f : List Pt), _) => ⟨[f.length ≤ 1000000000], (f.map Pt.x, ()), ()⟩⟩
theorem map_take_succ {α β : Type} (g : α → β) (d : α) (l : List α) (i : Nat) (h : i < l.length) : (l.take i).map g ++ [g (getA d l i)] = (l.take (i + 1)).map g := by
  rw [List.take_add_one, List.map_append, List.getElem?_eq_getElem h, getA_lt _ _ _ h]; rfl
theorem ok_impl_xsOf : GSpec Tryz.prog s_impl_xsOf := by
  refine fn_known tab_ok fol Known.nil (by decide) Tryz.func162 ?_
  rintro ⟨(f : List Pt), ⟨⟩⟩ ⟨hl, _⟩ ⟨h1, _⟩
  refine ⟨Nat, fun i => ⟨[(8, .sc (.num .i64 i)), (3, .sc (.own 7777777))], [100000], [(7777777, .row 26 .rat ((f.take i).map Pt.x))]⟩, fun i => i ≤ f.length, fun i => f.length - i, ⟨0, Nat.zero_le _, ?_⟩, ?_⟩
  · repeat' (first | apply And.intro | exact True.intro | exact Lf.mk (by with_reducible rfl) | apply Lf.mk)
    all_goals first | rfl | simp
  · intro i g1
    have hm : ((f.take i).map Pt.x).length = i := by simp; omega
    repeat' (first | with_reducible apply andAll_cons | with_reducible apply andAll_nil | (with_reducible apply Cf.mk; kernel_rfl) | apply And.intro | intro _ | exact True.intro | apply Lf.mk)
    all_goals simp only [hm] at *
    all_goals (try simp only [Bool.not_eq_true', Bool.not_eq_false', Bool.not_not, decide_eq_true_eq, decide_eq_false_iff_not, beq_iff_eq, bne_iff_ne, beq_eq_false_iff_ne, bne_eq_false_iff_eq, ne_eq, Bool.and_eq_true, Bool.and_eq_false_iff, Bool.or_eq_true, Bool.or_eq_false_iff, Int.toNat_natCast, Nat.zero_add, Int.ofNat_lt, Int.ofNat_le, List.length_cons, List.length_nil, List.drop_zero, List.take_length] at *)
    all_goals first | omega | (show (_ + 1) * 16 ≤ 140737488355328; omega) | skip
    · refine ⟨i + 1, by omega, by omega, ?_⟩
      repeat' (first | apply And.intro | exact True.intro | exact Lf.mk (by with_reducible rfl) | apply Lf.mk)
      all_goals first | (rw [Int.natCast_add]; rfl) | exact map_take_succ Pt.x zP f i (by assumption) | trace_state
    · rw [List.take_of_length_le (by omega)]
noncomputable def s_impl_isRising : Sig := ⟨161, [.list .rat], [.val .bool], fun ((l : List Rt), _) => ⟨[∀ x ∈ l, goodRt x = true], (risR l, ()), ()⟩⟩
theorem risR_no {l : List Rt} {i : Nat} (h : i + 1 < l.length) (h2 : lessRt (getA zR l i) (getA zR l (i + 1)) = false) : risR l = false := by
  rw [Bool.eq_false_iff, ne_eq, risR_iff]
  intro h3
  have := h3 i h
  unfold lessRt at h2
  exact of_decide_eq_false h2 this
theorem ok_impl_isRising : GSpec Tryz.prog s_impl_isRising := by
  refine fn_known tab_ok fol (Known.nil.cons ok_impl_less (by kernel_rfl)) (by decide) Tryz.func161 ?_
  rintro ⟨(l : List Rt), ⟨⟩⟩ ⟨hl, _⟩ ⟨h1, _⟩
  have hl : l.length ≤ 9223372036854775807 := hl
  refine ⟨Nat, fun i => ⟨[(3, .sc (.num .i64 ((i : Int) + 1)))], [100000], []⟩, fun i => (i = 0 ∨ i < l.length) ∧ ∀ j, j < i → ltR (getA zR l j) (getA zR l (j + 1)), fun i => l.length - i, ⟨0, ⟨.inl rfl, fun j hj => by omega⟩, ?_⟩, ?_⟩
  · repeat' (first | apply And.intro | exact True.intro | exact Lf.mk (by with_reducible rfl) | apply Lf.mk)
    all_goals rfl
  · rintro i ⟨g1, g2⟩
    repeat' (first | with_reducible apply andAll_cons | with_reducible apply andAll_nil | (with_reducible apply Cf.mk; kernel_rfl) | apply And.intro | intro _ | exact True.intro | apply Lf.mk)
    all_goals (try simp only [Bool.not_eq_true', Bool.not_eq_false', Bool.not_not, decide_eq_true_eq, decide_eq_false_iff_not, beq_iff_eq, bne_iff_ne, beq_eq_false_iff_ne, bne_eq_false_iff_eq, ne_eq, Bool.and_eq_true, Bool.and_eq_false_iff, Bool.or_eq_true, Bool.or_eq_false_iff, Int.toNat_natCast, Nat.zero_add, Int.ofNat_lt, Int.ofNat_le, List.length_cons, List.length_nil, List.drop_zero, List.take_length] at *)
    all_goals first | omega | exact h1 _ (getA_mem _ (by omega)) | skip
    all_goals try simp only [show ((i : Int) + 1 - 1).toNat = i by omega, show ((i : Int) + 1).toNat = i + 1 by omega] at *
    · exact (risR_no (i := i) (by omega) (by assumption)).symm
    · rename_i h3 h4
      refine ⟨i + 1, ⟨.inr (by omega), fun j hj => ?_⟩, by omega, ?_⟩
      · rcases Nat.lt_or_eq_of_le (Nat.le_of_lt_succ hj) with h5 | h5
        · exact g2 j h5
        · subst h5; exact of_decide_eq_true h4
      · repeat' (first | apply And.intro | exact True.intro | exact Lf.mk (by with_reducible rfl) | apply Lf.mk)
        all_goals (rw [Int.natCast_add]; rfl)
    · exact (risR_iff.2 (fun j hj => g2 j (by omega))).symm
noncomputable def s_impl_isMap : Sig := ⟨85, [.list .pt], [.val .bool], fun ((f : List Pt), _) => ⟨[], (mapOk f, ()), ()⟩⟩
noncomputable def s_spec_imGood : Sig := ⟨88, [.list .pt], [.val .bool], fun ((f : List Pt), _) => ⟨[], (mapOk f, ()), ()⟩⟩
theorem mapOk_no1 {f : List Pt} (h : inB f.length 2 12 = false) : mapOk f = false := by unfold mapOk; rw [h]; rfl
theorem eqRt_dec (a b : Rt) : eqRt a b = decide (a = b) := by
  rw [Bool.eq_iff_iff, decide_eq_true_eq]
  unfold eqRt
  cases a; cases b; simp
theorem mapOk_eq {f : List Pt} (h : inB f.length 2 12 = true) : mapOk f = ((!(f.any fun x => !ptOk x)) && (eqRt ⟨(getA VK.pt.dflt f (Int.toNat 0)).1.num, (getA VK.pt.dflt f (Int.toNat 0)).1.den⟩ ⟨0, 1⟩ && (eqRt ⟨(getA VK.pt.dflt f ((f.length : Int) - 1).toNat).1.num, (getA VK.pt.dflt f ((f.length : Int) - 1).toNat).1.den⟩ ⟨1, 1⟩ && risR (f.map Pt.x)))) := by
  have hb := of_decide_eq_true h
  unfold mapOk
  rw [h, any_not, eqRt_dec, eqRt_dec, show ((f.length : Int) - 1).toNat = f.length - 1 by omega]
  rfl
theorem any_pt {f : List Pt} (h : (f.any fun x => !ptOk x) = false) {r : Rt} (hr : r ∈ f.map Pt.x) : goodRt r = true := by
  have h2 : f.all ptOk = true := by rw [← any_not, h]; rfl
  obtain ⟨p, hp, rfl⟩ := List.mem_map.1 hr
  exact coord_good (ptOk_iff.1 (List.all_eq_true.1 h2 p hp)).1
theorem ok_impl_isMap : GSpec Tryz.prog s_impl_isMap := by
  refine fn_known tab_ok fol (((((((Known.nil.cons ok_impl_within (by kernel_rfl)).cons ok_lib_ContainsFuncPoint (by kernel_rfl)).cons ok_impl_isMap_1 (by kernel_rfl)).cons ok_impl_zero (by kernel_rfl)).cons ok_impl_oneRat (by kernel_rfl)).cons ok_impl_xsOf (by kernel_rfl)).cons ok_impl_isRising (by kernel_rfl)) (by decide) Tryz.func85 ?_
  rintro ⟨(f : List Pt), ⟨⟩⟩ ⟨hl, _⟩ _
  have hl : f.length ≤ 9223372036854775807 := hl
  repeat' (first | with_reducible apply andAll_cons | with_reducible apply andAll_nil | (with_reducible apply Cf.mk; kernel_rfl) | apply And.intro | intro _ | exact True.intro | apply Lf.mk)
  all_goals (try simp only [Bool.not_eq_true', Bool.not_eq_false', Bool.not_not, decide_eq_true_eq, decide_eq_false_iff_not, beq_iff_eq, bne_iff_ne, beq_eq_false_iff_ne, bne_eq_false_iff_eq, ne_eq, Bool.and_eq_true, Bool.and_eq_false_iff, Bool.or_eq_true, Bool.or_eq_false_iff, Int.toNat_natCast, Nat.zero_add, Int.ofNat_lt, Int.ofNat_le, List.length_cons, List.length_nil, List.drop_zero, List.take_length] at *)
  all_goals first
    | rfl
    | assumption
    | exact (mapOk_no1 (by assumption)).symm
    | exact any_pt (by assumption) (by assumption)
    | (have hb := of_decide_eq_true (by assumption : inB (f.length : Int) 2 12 = true)
       first
         | omega
         | (show Int.toNat 0 < f.length; simp; omega)
         | exact (by simp_all : ∀ {M N A B R : Bool}, M = (!N && (A && (B && R))) → N = true → false = M) (mapOk_eq (f := f) (by assumption)) (by assumption)
         | exact (by simp_all : ∀ {M N A B R : Bool}, M = (!N && (A && (B && R))) → N = false → A = true → (bif A then B else false) = true → (bif (bif A then B else false) then R else false) = M) (mapOk_eq (f := f) (by assumption)) (by assumption) (by assumption) (by assumption)
         | exact (by simp_all : ∀ {M N A B R : Bool}, M = (!N && (A && (B && R))) → N = false → A = true → (bif A then B else false) = false → false = M) (mapOk_eq (f := f) (by assumption)) (by assumption) (by assumption) (by assumption)
         | exact (by simp_all : ∀ {M N A B R : Bool}, M = (!N && (A && (B && R))) → N = false → A = false → false = M) (mapOk_eq (f := f) (by assumption)) (by assumption) (by assumption)
         | exact absurd (by assumption : false = true) (by decide)
         | trace_state)
    | trace_state
theorem bA {C D : Bool} (h : (bif !C then true else !D) = false) : C = true ∧ D = true := by revert h; cases C <;> cases D <;> decide
theorem bB {C D : Bool} (h : (bif !C then true else !D) = true) (h2 : C = true) : D = false := by revert h h2; cases C <;> cases D <;> decide
theorem bC {X P Q : Bool} (h : (bif X then true else bif P then Q else false) = true) (h2 : X = false) : Q = true := by revert h h2; cases X <;> cases P <;> cases Q <;> decide
theorem bD {X P Q : Bool} (h : (bif X then true else bif P then Q else false) = false) (h2 : P = true) : Q = false := by revert h h2; cases X <;> cases P <;> cases Q <;> decide
theorem mapOk_pt1 {f : List Pt} {i : Nat} (h : i < f.length) (h2 : coordRt (getA zP f i).x = false) : false = mapOk f := by
  symm; rw [Bool.eq_false_iff]; intro h3; have := (ptOk_iff.1 (map_pt h3 h)).1; rw [h2] at this; cases this
theorem mapOk_pt2 {f : List Pt} {i : Nat} (h : i < f.length) (h2 : coordRt (getA zP f i).y = false) : false = mapOk f := by
  symm; rw [Bool.eq_false_iff]; intro h3; have := (ptOk_iff.1 (map_pt h3 h)).2; rw [h2] at this; cases this
theorem cmp_ge {a b : Rt} (h : decide (0 ≤ cmpRt a b) = true) : ¬ ltR a b := by
  have := of_decide_eq_true h
  intro h2; have := cmpRt_neg.2 h2; omega
theorem cmp_lt {a b : Rt} (h : decide (0 ≤ cmpRt a b) = false) : ltR a b := by
  have := of_decide_eq_false h
  exact cmpRt_neg.1 (by omega)
theorem pred_nat {i : Nat} (h : (0 : Int) < i) : ((i : Int) - 1).toNat = i - 1 := by omega
theorem mapOk_lt {f : List Pt} {i : Nat} (h : i < f.length) (h0 : (0 : Int) < i) (h2 : ¬ ltR (getA zP f ((i : Int) - 1).toNat).x (getA zP f i).x) : false = mapOk f := by
  symm; rw [Bool.eq_false_iff]; intro h3
  have := (mapOk_iff.1 h3).2.2.2.2 (i - 1) (by omega)
  rw [pred_nat h0] at h2
  rw [show i - 1 + 1 = i by omega] at this
  exact h2 this
theorem cmp_zero {a b : Rt} (ha : goodRt a = true) (hb : goodRt b = true) : (cmpRt a b == 0) = decide (a = b) := by
  rw [Bool.eq_iff_iff, beq_iff_eq, decide_eq_true_eq]
  constructor
  · intro h
    apply good_eq ha hb
    unfold cmpRt sgn at h
    split at h
    · omega
    · split at h <;> omega
  · intro h; subst h; unfold cmpRt sgn; rw [if_neg (by omega), if_neg (by omega)]
theorem mapOk_end {f : List Pt} {a b : Rt} (hb : 2 ≤ f.length ∧ f.length ≤ 12) (g2 : ∀ j, j < f.length → ptOk (getA zP f j) = true) (g3 : ∀ j, j + 1 < f.length → ltR (getA zP f j).x (getA zP f (j + 1)).x)
    (e1 : a = (getA zP f 0).x) (e2 : b = (getA zP f (f.length - 1)).x) : (decide (a = ⟨0, 1⟩) && decide (b = ⟨1, 1⟩)) = mapOk f := by
  subst e1; subst e2
  rw [Bool.eq_iff_iff, mapOk_iff, Bool.and_eq_true, decide_eq_true_eq, decide_eq_true_eq]
  constructor
  · intro ⟨h1, h2⟩
    refine ⟨hb, fun p hp => ?_, h1, h2, g3⟩
    obtain ⟨j, hj, rfl⟩ := List.mem_iff_getElem.1 hp
    rw [← getA_lt zP f j hj]; exact g2 j hj
  · intro ⟨_, _, h1, h2, _⟩; exact ⟨h1, h2⟩
theorem mapOk_fin {f : List Pt} {i : Nat} (hb : 2 ≤ (f.length : Int) ∧ (f.length : Int) ≤ 12) (hi : ¬ i < f.length) (g1 : i ≤ f.length) (g2 : ∀ j, j < i → ptOk (getA zP f j) = true) (g3 : ∀ j, j + 1 < i → ltR (getA zP f j).x (getA zP f (j + 1)).x) :
    (bif cmpRt (getA zP f (Int.toNat 0)).x ⟨0, 1⟩ == 0 then cmpRt (getA zP f ((f.length : Int) - 1).toNat).x ⟨1, 1⟩ == 0 else false) = mapOk f := by
  have e : i = f.length := by omega
  subst e
  have h1 := coord_good (ptOk_iff.1 (g2 0 (by omega))).1
  have h2 := coord_good (ptOk_iff.1 (g2 (f.length - 1) (by omega))).1
  rw [← mapOk_end (f := f) ⟨by omega, by omega⟩ g2 g3 rfl rfl, show Int.toNat 0 = 0 from rfl, show ((f.length : Int) - 1).toNat = f.length - 1 by omega, cmp_zero h1 good_zero, cmp_zero h2 good_one]
  cases decide ((getA zP f 0).x = ⟨0, 1⟩) <;> rfl
theorem mapOk_fin0 {f : List Pt} {i : Nat} (hb : 2 ≤ (f.length : Int) ∧ (f.length : Int) ≤ 12) (hi : ¬ i < f.length) (g1 : i ≤ f.length) (g2 : ∀ j, j < i → ptOk (getA zP f j) = true) (g3 : ∀ j, j + 1 < i → ltR (getA zP f j).x (getA zP f (j + 1)).x)
    (h : ¬ cmpRt (getA zP f (Int.toNat 0)).x ⟨0, 1⟩ = 0) : false = mapOk f := by
  rw [← mapOk_fin hb hi g1 g2 g3, beq_false_of_ne h]; rfl
theorem ok_spec_imGood : GSpec Tryz.prog s_spec_imGood := by
  refine fn_known tab_ok fol ((((Known.nil.cons ok_spec_l1In (by kernel_rfl)).cons ok_spec_imCoord (by kernel_rfl)).cons ok_spec_raCmp (by kernel_rfl)).cons ok_spec_raInt (by kernel_rfl)) (by decide) Tryz.func88 ?_
  rintro ⟨(f : List Pt), ⟨⟩⟩ ⟨hl, _⟩ _
  have hl : f.length ≤ 9223372036854775807 := hl
  repeat' (first | with_reducible apply andAll_cons | with_reducible apply andAll_nil | (with_reducible apply Cf.mk; kernel_rfl) | apply And.intro | intro _ | exact True.intro | apply Lf.mk)
  all_goals (try simp only [Bool.not_eq_true', Bool.not_eq_false', Bool.not_not, decide_eq_true_eq, decide_eq_false_iff_not, beq_iff_eq, bne_iff_ne, beq_eq_false_iff_ne, bne_eq_false_iff_eq, ne_eq, Bool.and_eq_true, Bool.and_eq_false_iff, Bool.or_eq_true, Bool.or_eq_false_iff, Int.toNat_natCast, Nat.zero_add, Int.ofNat_lt, Int.ofNat_le, List.length_cons, List.length_nil, List.drop_zero, List.take_length] at *)
  all_goals first | omega | skip
  · exact (mapOk_no1 (by assumption)).symm
  rename_i h1
  have hb := of_decide_eq_true h1
  refine ⟨Nat, fun i => ⟨[(11, .sc (.num .i64 i))], [100000], []⟩, fun i => i ≤ f.length ∧ (∀ j, j < i → ptOk (getA zP f j) = true) ∧ ∀ j, j + 1 < i → ltR (getA zP f j).x (getA zP f (j + 1)).x, fun i => f.length - i, ⟨0, ⟨Nat.zero_le _, fun j hj => by omega, fun j hj => by omega⟩, ?_⟩, ?_⟩
  · repeat' (first | apply And.intro | exact True.intro | exact Lf.mk (by with_reducible rfl) | apply Lf.mk)
    all_goals rfl
  · rintro i ⟨g1, g2, g3⟩
    repeat' (first | with_reducible apply andAll_cons | with_reducible apply andAll_nil | (with_reducible apply Cf.mk; kernel_rfl) | apply And.intro | intro _ | exact True.intro | apply Lf.mk)
    all_goals (try simp only [Bool.not_eq_true', Bool.not_eq_false', Bool.not_not, decide_eq_true_eq, decide_eq_false_iff_not, beq_iff_eq, bne_iff_ne, beq_eq_false_iff_ne, bne_eq_false_iff_eq, ne_eq, Bool.and_eq_true, Bool.and_eq_false_iff, Bool.or_eq_true, Bool.or_eq_false_iff, Int.toNat_natCast, Nat.zero_add, Int.ofNat_lt, Int.ofNat_le, List.length_cons, List.length_nil, List.drop_zero, List.take_length] at *)
    all_goals first
      | omega
      | contradiction
      | assumption
      | exact good_zero
      | exact good_one
      | exact coord_good (by assumption)
      | exact coord_good (ptOk_iff.1 (g2 _ (by omega))).1
      | exact mapOk_pt1 (by assumption) (by assumption)
      | exact mapOk_pt2 (by assumption) (bB (by assumption) (by assumption))
      | exact mapOk_lt (by assumption) (by assumption) (cmp_ge (bC (by assumption) (by assumption)))
      | (simp_all; done)
      | skip
    · rename_i h2 h3 h4 h5 h6
      refine ⟨i + 1, ⟨by omega, fun j hj => ?_, fun j hj => ?_⟩, by omega, ?_⟩
      · rcases Nat.lt_or_eq_of_le (Nat.le_of_lt_succ hj) with h7 | h7
        · exact g2 j h7
        · subst h7; exact ptOk_iff.2 (bA h4)
      · rcases Nat.lt_or_eq_of_le (Nat.le_of_lt_succ hj) with h7 | h7
        · exact g3 j h7
        · have h8 := cmp_lt (bD h6 (decide_eq_true h5))
          rw [pred_nat h5] at h8
          rw [show j = i - 1 by omega, show i - 1 + 1 = i by omega]
          exact h8
      · repeat' (first | apply And.intro | exact True.intro | exact Lf.mk (by with_reducible rfl) | apply Lf.mk)
        all_goals (rw [Int.natCast_add]; rfl)
    · rename_i h2 h3 h4 h5 h6
      have hi : i = 0 := by omega
      refine ⟨i + 1, ⟨by omega, fun j hj => ?_, fun j hj => by omega⟩, by omega, ?_⟩
      · rw [show j = i by omega]; exact ptOk_iff.2 (bA h4)
      · repeat' (first | apply And.intro | exact True.intro | exact Lf.mk (by with_reducible rfl) | apply Lf.mk)
        all_goals (rw [Int.natCast_add]; rfl)
    · exact mapOk_fin hb (by assumption) g1 g2 g3
    · exact mapOk_fin0 hb (by assumption) g1 g2 g3 (by assumption)
end Go.Vx
namespace Go.Vx
open Go Go.Proofs
set_option maxRecDepth 100000
set_option linter.unusedSimpArgs false
set_option linter.unusedVariables false

noncomputable def s_calc_slope : Sig := ⟨179, [.cell cT .bool, .val .pt, .val .pt], [.val .rat], fun ((c : Bool), (p : Pt), (q : Pt), _) => ⟨[ptOk p = true, ptOk q = true, ltR p.x q.x], (slR p q, ()), (c, ())⟩⟩
theorem ok_calc_slope : GSpec Tryz.prog s_calc_slope := by
  refine fn_known tab_ok fol ((Known.nil.cons ok_calc_sub (by kernel_rfl)).cons ok_calc_div (by kernel_rfl)) (by decide) Tryz.func179 ?_
  rintro ⟨(c : Bool), ⟨⟨(n : Int), (d : Int)⟩, ⟨(m : Int), (e : Int)⟩⟩, ⟨⟨(n' : Int), (d' : Int)⟩, ⟨(m' : Int), (e' : Int)⟩⟩, ⟨⟩⟩ hl ⟨h1, h2, h3, _⟩
  obtain ⟨s1, s2, s3⟩ := slR_ok h1 h2 h3
  have hp := ptOk_iff.1 h1
  have hq := ptOk_iff.1 h2
  obtain ⟨a1, a2, a3, a4⟩ := sub_coord hq.2 hp.2
  obtain ⟨b1, b2, b3, b4⟩ := sub_coord hq.1 hp.1
  have e1 := opR_t a1
  have e2 := opR_t b1
  have e3 := opR_t s1
  have g1 := coord_good hp.1
  have g2 := coord_good hp.2
  have g3 := coord_good hq.1
  have g4 := coord_good hq.2
  dsimp only at *
  repeat' (first | with_reducible apply andAll_cons | with_reducible apply andAll_nil | (with_reducible apply Cf.mk; kernel_rfl) | apply And.intro | intro _ | exact True.intro | apply Lf.mk)
  all_goals (try simp only [e1, e2, e3, a1, b1, s1, Bool.not_true, Bool.or_false] at *)
  all_goals first | assumption | rfl
noncomputable def s_spec_imSlope : Sig := ⟨220, [.val .pt, .val .pt], [.val .rat], fun ((p : Pt), (q : Pt), _) => ⟨[ptOk p = true, ptOk q = true, ltR p.x q.x], (slR p q, ()), ()⟩⟩
theorem ok_spec_imSlope : GSpec Tryz.prog s_spec_imSlope := by
  refine fn_known tab_ok fol ((Known.nil.cons ok_spec_raSub (by kernel_rfl)).cons ok_spec_raDiv (by kernel_rfl)) (by decide) Tryz.func220 ?_
  rintro ⟨⟨⟨(n : Int), (d : Int)⟩, ⟨(m : Int), (e : Int)⟩⟩, ⟨⟨(n' : Int), (d' : Int)⟩, ⟨(m' : Int), (e' : Int)⟩⟩, ⟨⟩⟩ hl ⟨h1, h2, h3, _⟩
  have hp := ptOk_iff.1 h1
  have hq := ptOk_iff.1 h2
  obtain ⟨a1, a2, a3, a4⟩ := sub_coord hq.2 hp.2
  obtain ⟨b1, b2, b3, b4⟩ := sub_coord hq.1 hp.1
  have g1 := ok_good (coord_good hp.1)
  have g2 := ok_good (coord_good hp.2)
  have g3 := ok_good (coord_good hq.1)
  have g4 := ok_good (coord_good hq.2)
  have g5 := ok_good a2
  have g6 := ok_good b2
  dsimp only at *
  repeat' (first | with_reducible apply andAll_cons | with_reducible apply andAll_nil | (with_reducible apply Cf.mk; kernel_rfl) | apply And.intro | intro _ | exact True.intro | apply Lf.mk)
  all_goals first | assumption | rfl
noncomputable def s_calc_line : Sig := ⟨178, [.cell cT .bool, .val .pt, .val .rat, .val .rat], [.val .rat], fun ((c : Bool), (p : Pt), (s : Rt), (x : Rt), _) => ⟨[ptOk p = true, goodRt s = true, goodRt x = true], (lineO p s x, ()), (c || !(lineR p s x).2, ())⟩⟩
theorem ok_calc_line : GSpec Tryz.prog s_calc_line := by
  refine fn_known tab_ok fol (((Known.nil.cons ok_calc_sub (by kernel_rfl)).cons ok_calc_mul (by kernel_rfl)).cons ok_calc_add (by kernel_rfl)) (by decide) Tryz.func178 ?_
  rintro ⟨(c : Bool), ⟨⟨(n : Int), (d : Int)⟩, ⟨(m : Int), (e : Int)⟩⟩, ⟨(n' : Int), (d' : Int)⟩, ⟨(m' : Int), (e' : Int)⟩, ⟨⟩⟩ hl ⟨h1, h2, h3, _⟩
  have hp := ptOk_iff.1 h1
  have g1 := coord_good hp.1
  have g2 := coord_good hp.2
  have hf := line_flag c ⟨⟨n, d⟩, ⟨m, e⟩⟩ ⟨n', d'⟩ ⟨m', e'⟩
  dsimp only at *
  repeat' (first | with_reducible apply andAll_cons | with_reducible apply andAll_nil | (with_reducible apply Cf.mk; kernel_rfl) | apply And.intro | intro _ | exact True.intro | apply Lf.mk)
  all_goals first | assumption | exact opR_good | exact hf | rfl
noncomputable def s_impl_slopes : Sig := ⟨198, [.list .pt], [.list 26 .rat], fun ((f : List Pt), _) => ⟨[mapOk f = true], (slL f (f.length - 1), ()), ()⟩⟩
theorem ok_impl_slopes : GSpec Tryz.prog s_impl_slopes := by
  refine fn_known tab_ok fol (Known.nil.cons ok_calc_slope (by kernel_rfl)) (by decide) Tryz.func198 ?_
  rintro ⟨(f : List Pt), ⟨⟩⟩ ⟨hl, _⟩ ⟨h1, _⟩
  have h2 := mapOk_iff.1 h1
  refine ⟨Nat, fun i => ⟨[(5, .sc (.num .i64 ((i : Int) + 1))), (4, .sc (.own 7777777))], [100000], [(7777777, .row 26 .rat (slL f i)), (3, .box cT [.bool false])]⟩, fun i => i + 1 ≤ f.length, fun i => f.length - i, ⟨0, by omega, ?_⟩, ?_⟩
  · repeat' (first | apply And.intro | exact True.intro | exact Lf.mk (by with_reducible rfl) | apply Lf.mk)
    all_goals first | rfl | simp
  · intro i g1
    have hm := slL_length f i
    repeat' (first | with_reducible apply andAll_cons | with_reducible apply andAll_nil | (with_reducible apply Cf.mk; kernel_rfl) | apply And.intro | intro _ | exact True.intro | apply Lf.mk)
    all_goals simp only [hm] at *
    all_goals (try simp only [Bool.not_eq_true', Bool.not_eq_false', Bool.not_not, decide_eq_true_eq, decide_eq_false_iff_not, beq_iff_eq, bne_iff_ne, beq_eq_false_iff_ne, bne_eq_false_iff_eq, ne_eq, Bool.and_eq_true, Bool.and_eq_false_iff, Bool.or_eq_true, Bool.or_eq_false_iff, Int.toNat_natCast, Nat.zero_add, Int.ofNat_lt, Int.ofNat_le, List.length_cons, List.length_nil, List.drop_zero, List.take_length] at *)
    all_goals (try simp only [show ((i : Int) + 1 - 1).toNat = i by omega, show ((i : Int) + 1).toNat = i + 1 by omega] at *)
    all_goals first
      | omega
      | exact map_pt h1 (by omega)
      | exact h2.2.2.2.2 i (by omega)
      | (show (_ + 1) * 16 ≤ 140737488355328; omega)
      | (rw [show i = f.length - 1 by omega]; done)
      | skip
    refine ⟨i + 1, by omega, by omega, ?_⟩
    repeat' (first | apply And.intro | exact True.intro | exact Lf.mk (by with_reducible rfl) | apply Lf.mk)
    all_goals first | rfl | (rw [Int.natCast_add]; rfl) | exact slL_succ f i
noncomputable def s_impl_pieceAt_1 : Sig := ⟨226, [.val .pt, .cell 26 .rat], [.val .bool], fun ((p : Pt), (x : Rt), _) => ⟨[goodRt p.x = true, goodRt x = true], (!lessRt p.x x, ()), (x, ())⟩⟩
theorem ok_impl_pieceAt_1 : GSpec Tryz.prog s_impl_pieceAt_1 := by
  refine fn_known tab_ok fol (Known.nil.cons ok_impl_less (by kernel_rfl)) (by decide) Tryz.func226 ?_
  rintro ⟨⟨⟨(n : Int), (d : Int)⟩, ⟨(m : Int), (e : Int)⟩⟩, ⟨(n' : Int), (d' : Int)⟩, ⟨⟩⟩ hl ⟨h1, h2, _⟩
  repeat' (first | with_reducible apply andAll_cons | with_reducible apply andAll_nil | (with_reducible apply Cf.mk; kernel_rfl) | apply And.intro | intro _ | exact True.intro | apply Lf.mk)
  all_goals first | assumption | rfl
noncomputable def s_impl_pieceAt : Sig := ⟨177, [.list .pt, .val .rat], [.val NI], fun ((f : List Pt), (x : Rt), _) => ⟨[∀ p ∈ f, goodRt p.x = true, goodRt x = true], ((pcN f x : Int), ()), ()⟩⟩
theorem idx_lo {α : Type} {p : α → Bool} {l : List α} : -9223372036854775808 ≤ idxF p l - 1 := by have := idxF_rng p l; omega
theorem idx_hi {α : Type} {p : α → Bool} {l : List α} (hl : l.length ≤ 9223372036854775807) : idxF p l - 1 ≤ 9223372036854775807 := by have := idxF_rng p l; omega
theorem if_toNat (a : Int) : (if a < 0 then 0 else a) = (a.toNat : Int) := by split <;> omega
theorem ok_impl_pieceAt : GSpec Tryz.prog s_impl_pieceAt := by
  refine fn_known tab_ok fol ((Known.nil.cons ok_lib_IndexFuncPoint (by kernel_rfl)).cons ok_impl_pieceAt_1 (by kernel_rfl)) (by decide) Tryz.func177 ?_
  rintro ⟨(f : List Pt), ⟨(n : Int), (d : Int)⟩, ⟨⟩⟩ ⟨hl, _⟩ ⟨h1, h2, _⟩
  have hl : f.length ≤ 9223372036854775807 := hl
  repeat' (first | with_reducible apply andAll_cons | with_reducible apply andAll_nil | (with_reducible apply Cf.mk; kernel_rfl) | apply And.intro | intro _ | exact True.intro | apply Lf.mk)
  all_goals (try simp only [Bool.not_eq_true', Bool.not_eq_false', Bool.not_not, decide_eq_true_eq, decide_eq_false_iff_not, beq_iff_eq, bne_iff_ne, beq_eq_false_iff_ne, bne_eq_false_iff_eq, ne_eq, Bool.and_eq_true, Bool.and_eq_false_iff, Bool.or_eq_true, Bool.or_eq_false_iff, Int.toNat_natCast, Nat.zero_add, Int.ofNat_lt, Int.ofNat_le, List.length_cons, List.length_nil, List.drop_zero, List.take_length] at *)
  all_goals first | exact h1 _ (by assumption) | exact h2 | rfl | exact idx_lo | exact idx_hi hl | exact if_toNat _
noncomputable def s_spec_imPiece : Sig := ⟨167, [.list .pt, .val .rat], [.val NI], fun ((f : List Pt), (x : Rt), _) => ⟨[mapOk f = true, unitRt x = true], ((pcN f x : Int), ()), ()⟩⟩
theorem bE {P Q : Bool} (h : (bif P then Q else false) = true) : P = true ∧ Q = true := by revert h; cases P <;> cases Q <;> decide
theorem bF {P Q : Bool} (h : (bif P then Q else false) = false) (h2 : P = true) : Q = false := by revert h h2; cases P <;> cases Q <;> decide
theorem succ_nat (i : Nat) : ((i : Int) + 1).toNat = i + 1 := by omega
theorem cmp_lt' {a b : Rt} (h : decide (cmpRt a b < 0) = true) : ltR a b := cmpRt_neg.1 (of_decide_eq_true h)
theorem cmp_ge' {a b : Rt} (h : decide (cmpRt a b < 0) = false) : ¬ ltR a b := fun h2 => of_decide_eq_false h (cmpRt_neg.2 h2)
theorem ok_spec_imPiece : GSpec Tryz.prog s_spec_imPiece := by
  refine fn_known tab_ok fol (Known.nil.cons ok_spec_raCmp (by kernel_rfl)) (by decide) Tryz.func167 ?_
  rintro ⟨(f : List Pt), ⟨(n : Int), (d : Int)⟩, ⟨⟩⟩ ⟨hl, _⟩ ⟨h1, h2, _⟩
  have h3 := mapOk_iff.1 h1
  refine ⟨Nat, fun i => ⟨[(5, .sc (.num .i64 i))], [100000, 3], []⟩, fun i => i + 1 < f.length ∧ ∀ j, 0 < j → j ≤ i → ltR (getA zP f j).x ⟨n, d⟩, fun i => f.length - i, ⟨0, ⟨by omega, fun j hj hj2 => by omega⟩, ?_⟩, ?_⟩
  · repeat' (first | apply And.intro | exact True.intro | exact Lf.mk (by with_reducible rfl) | apply Lf.mk)
    all_goals rfl
  · rintro i ⟨g1, g2⟩
    repeat' (first | with_reducible apply andAll_cons | with_reducible apply andAll_nil | (with_reducible apply Cf.mk; kernel_rfl) | apply And.intro | intro _ | exact True.intro | apply Lf.mk)
    all_goals (try simp only [Bool.not_eq_true', Bool.not_eq_false', Bool.not_not, decide_eq_true_eq, decide_eq_false_iff_not, beq_iff_eq, bne_iff_ne, beq_eq_false_iff_ne, bne_eq_false_iff_eq, ne_eq, Bool.and_eq_true, Bool.and_eq_false_iff, Bool.or_eq_true, Bool.or_eq_false_iff, Int.toNat_natCast, Nat.zero_add, Int.ofNat_lt, Int.ofNat_le, List.length_cons, List.length_nil, List.drop_zero, List.take_length] at *)
    all_goals first | omega | contradiction | exact coord_good (ptOk_iff.1 (map_pt h1 (i := ((i : Int) + 1).toNat) (by omega))).1 | exact unit_good h2 | skip
    · rename_i h4 h5
      have h6 := cmp_lt' (bE h5).2
      rw [succ_nat] at h6
      refine ⟨i + 1, ⟨by omega, fun j hj hj2 => ?_⟩, by omega, ?_⟩
      · rcases Nat.lt_or_eq_of_le hj2 with h7 | h7
        · exact g2 j hj (by omega)
        · rw [h7]; exact h6
      · repeat' (first | apply And.intro | exact True.intro | exact Lf.mk (by with_reducible rfl) | apply Lf.mk)
        all_goals (rw [Int.natCast_add]; rfl)
    · rename_i h4 h5
      have h6 := cmp_ge' (bF h5 (decide_eq_true h4))
      rw [succ_nat] at h6
      exact congrArg Int.ofNat (pc_uniq h1 h2 g2 (fun h => h6 h.2) g1)
    · rename_i h4
      exact congrArg Int.ofNat (pc_uniq h1 h2 g2 (fun h => by omega) g1)
noncomputable def s_calc_value : Sig := ⟨104, [.cell cT .bool, .list .pt, .val .rat], [.val .rat], fun ((c : Bool), (f : List Pt), (x : Rt), _) => ⟨[mapOk f = true, unitRt x = true], (vO f x, ()), (c || !(vR f x).2, ())⟩⟩
theorem ok_calc_value : GSpec Tryz.prog s_calc_value := by
  refine fn_known tab_ok fol (((Known.nil.cons ok_impl_pieceAt (by kernel_rfl)).cons ok_calc_slope (by kernel_rfl)).cons ok_calc_line (by kernel_rfl)) (by decide) Tryz.func104 ?_
  rintro ⟨(c : Bool), (f : List Pt), ⟨(n : Int), (d : Int)⟩, ⟨⟩⟩ ⟨_, hl, _⟩ ⟨h1, h2, _⟩
  obtain ⟨p1, p2, p3, p4⟩ := pc_spec h1 h2
  obtain ⟨m1, m2, m3, m4, m5⟩ := mapOk_iff.1 h1
  have a1 := map_pt h1 (i := pcN f ⟨n, d⟩) (by omega)
  have a2 := map_pt h1 (i := pcN f ⟨n, d⟩ + 1) (by omega)
  obtain ⟨s1, s2, s3⟩ := slR_ok a1 a2 (m5 _ p1)
  repeat' (first | with_reducible apply andAll_cons | with_reducible apply andAll_nil | (with_reducible apply Cf.mk; kernel_rfl) | apply And.intro | intro _ | exact True.intro | apply Lf.mk)
  all_goals (try simp only [Bool.not_eq_true', Bool.not_eq_false', Bool.not_not, decide_eq_true_eq, decide_eq_false_iff_not, beq_iff_eq, bne_iff_ne, beq_eq_false_iff_ne, bne_eq_false_iff_eq, ne_eq, Bool.and_eq_true, Bool.and_eq_false_iff, Bool.or_eq_true, Bool.or_eq_false_iff, Int.toNat_natCast, Nat.zero_add, Int.ofNat_lt, Int.ofNat_le, List.length_cons, List.length_nil, List.drop_zero, List.take_length] at *)
  all_goals (try simp only [Int.toNat_natCast, succ_nat] at *)
  all_goals first | omega | assumption | exact coord_good (ptOk_iff.1 (m2 _ (by assumption))).1 | exact unit_good h2 | exact m5 _ p1 | (unfold vO; rfl) | (unfold vR; rfl) | rfl | skip
noncomputable def s_spec_imOn : Sig := ⟨168, [.val .pt, .val .pt, .val .rat], [.val .rat, .val .bool], fun ((p : Pt), (q : Pt), (x : Rt), _) => ⟨[ptOk p = true, ptOk q = true, ltR p.x q.x, goodRt x = true], ((lineR p (slR p q) x).1, (lineR p (slR p q) x).2, ()), ()⟩⟩
theorem mulRt_comm (a b : Rt) : mulRt a b = mulRt b a := by unfold mulRt; rw [Int.mul_comm a.num, Int.mul_comm a.den]
theorem on_bad {p : Pt} {s x : Rt} (h1 : (subRt x p.x).2 = true) (h : (mulRt (subRt x p.x).1 s).2 = false) : (⟨0, 0⟩, false) = lineR p s x := by
  rw [mulRt_comm] at h
  rw [lineR_2 h1 h]
theorem on_ok {p : Pt} {s x : Rt} (h1 : (subRt x p.x).2 = true) (h : (mulRt (subRt x p.x).1 s).2 = true) : addRt p.y (mulRt (subRt x p.x).1 s).1 = lineR p s x := by
  rw [mulRt_comm] at h ⊢
  rw [lineR_3 h1 h]
theorem ok_spec_imOn : GSpec Tryz.prog s_spec_imOn := by
  refine fn_known tab_ok fol ((((Known.nil.cons ok_spec_raSub (by kernel_rfl)).cons ok_spec_imSlope (by kernel_rfl)).cons ok_spec_raMul (by kernel_rfl)).cons ok_spec_raAdd (by kernel_rfl)) (by decide) Tryz.func168 ?_
  rintro ⟨⟨⟨(n : Int), (d : Int)⟩, ⟨(m : Int), (e : Int)⟩⟩, ⟨⟨(n' : Int), (d' : Int)⟩, ⟨(m' : Int), (e' : Int)⟩⟩, ⟨(n2 : Int), (d2 : Int)⟩, ⟨⟩⟩ hl ⟨h1, h2, h3, h4, _⟩
  obtain ⟨s1, s2, s3⟩ := slR_ok h1 h2 h3
  have hp := ptOk_iff.1 h1
  have g1 := ok_good (coord_good hp.1)
  have g2 := ok_good (coord_good hp.2)
  have g3 := ok_good h4
  have g4 := ok_good s2
  dsimp only at *
  repeat' (first | with_reducible apply andAll_cons | with_reducible apply andAll_nil | (with_reducible apply Cf.mk; kernel_rfl) | apply And.intro | intro _ | exact True.intro | apply Lf.mk)
  all_goals (try simp only [Bool.not_eq_true', Bool.not_eq_false', Bool.not_not, decide_eq_true_eq, decide_eq_false_iff_not, beq_iff_eq, bne_iff_ne, beq_eq_false_iff_ne, bne_eq_false_iff_eq, ne_eq, Bool.and_eq_true, Bool.and_eq_false_iff, Bool.or_eq_true, Bool.or_eq_false_iff, Int.toNat_natCast, Nat.zero_add, Int.ofNat_lt, Int.ofNat_le, List.length_cons, List.length_nil, List.drop_zero, List.take_length] at *)
  all_goals first
    | assumption
    | contradiction
    | exact congrArg Prod.fst (on_bad (p := ⟨⟨n, d⟩, ⟨m, e⟩⟩) (x := ⟨n2, d2⟩) (by assumption) (by assumption))
    | exact congrArg Prod.snd (on_bad (p := ⟨⟨n, d⟩, ⟨m, e⟩⟩) (x := ⟨n2, d2⟩) (by assumption) (by assumption))
    | exact congrArg Prod.fst (on_ok (p := ⟨⟨n, d⟩, ⟨m, e⟩⟩) (x := ⟨n2, d2⟩) (by assumption) (by assumption))
    | exact congrArg Prod.snd (on_ok (p := ⟨⟨n, d⟩, ⟨m, e⟩⟩) (x := ⟨n2, d2⟩) (by assumption) (by assumption))
    | exact congrArg Prod.fst (lineR_1 (p := ⟨⟨n, d⟩, ⟨m, e⟩⟩) (x := ⟨n2, d2⟩) (by assumption)).symm
    | exact congrArg Prod.snd (lineR_1 (p := ⟨⟨n, d⟩, ⟨m, e⟩⟩) (x := ⟨n2, d2⟩) (by assumption)).symm
    | exact lowRt_ok
    | skip
noncomputable def s_spec_imAt : Sig := ⟨95, [.list .pt, .val .rat], [.val .rat, .val .bool], fun ((f : List Pt), (x : Rt), _) => ⟨[mapOk f = true, unitRt x = true], ((vR f x).1, (vR f x).2, ()), ()⟩⟩
theorem ok_spec_imAt : GSpec Tryz.prog s_spec_imAt := by
  refine fn_known tab_ok fol ((Known.nil.cons ok_spec_imPiece (by kernel_rfl)).cons ok_spec_imOn (by kernel_rfl)) (by decide) Tryz.func95 ?_
  rintro ⟨(f : List Pt), ⟨(n : Int), (d : Int)⟩, ⟨⟩⟩ ⟨hl, _⟩ ⟨h1, h2, _⟩
  obtain ⟨p1, p2, p3, p4⟩ := pc_spec h1 h2
  obtain ⟨m1, m2, m3, m4, m5⟩ := mapOk_iff.1 h1
  have a1 := map_pt h1 (i := pcN f ⟨n, d⟩) (by omega)
  have a2 := map_pt h1 (i := pcN f ⟨n, d⟩ + 1) (by omega)
  repeat' (first | with_reducible apply andAll_cons | with_reducible apply andAll_nil | (with_reducible apply Cf.mk; kernel_rfl) | apply And.intro | intro _ | exact True.intro | apply Lf.mk)
  all_goals (try simp only [Bool.not_eq_true', Bool.not_eq_false', Bool.not_not, decide_eq_true_eq, decide_eq_false_iff_not, beq_iff_eq, bne_iff_ne, beq_eq_false_iff_ne, bne_eq_false_iff_eq, ne_eq, Bool.and_eq_true, Bool.and_eq_false_iff, Bool.or_eq_true, Bool.or_eq_false_iff, Int.toNat_natCast, Nat.zero_add, Int.ofNat_lt, Int.ofNat_le, List.length_cons, List.length_nil, List.drop_zero, List.take_length] at *)
  all_goals (try simp only [Int.toNat_natCast, succ_nat] at *)
  all_goals first | omega | assumption | exact coord_good (ptOk_iff.1 (m2 _ (by assumption))).1 | exact unit_good h2 | exact m5 _ p1 | (unfold vO; rfl) | (unfold vR; rfl) | rfl | skip
end Go.Vx
