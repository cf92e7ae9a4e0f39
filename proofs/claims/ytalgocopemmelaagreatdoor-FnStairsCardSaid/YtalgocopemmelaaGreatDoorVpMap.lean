/- Maps: pieces, slopes, values and images in plain arithmetic. -/
import Derived.Test.YtalgocopemmelaaGreatDoorVpRat
import Derived.Test.YtalgocopemmelaaGreatDoorVpStair
import Derived.Test.YtalgocopemmelaaGreatDoorVxU
namespace Go.Vx
open Go
set_option maxRecDepth 100000
set_option linter.unusedSimpArgs false
set_option linter.unusedVariables false

theorem q_low {n d : Int} (h0 : d ≠ 0) (h : (lowRt n d).2 = true) : qR (lowRt n d).1 = (n : Rat) / (d : Rat) := by
  have h1 := low_val h
  have h2 := den_pos (lowRt_good1 h)
  have h3 : (d : Rat) ≠ 0 := fun h => h0 (Rat.intCast_eq_zero_iff.1 h)
  have h4 : ((lowRt n d).1.num : Rat) * (d : Rat) = (n : Rat) * ((lowRt n d).1.den : Rat) := by
    rw [← Rat.intCast_mul, h1, Rat.intCast_mul]
  unfold qR
  have h5 : ((lowRt n d).1.den : Rat) ≠ 0 := by grind
  grind
theorem q_sub {a b : Rt} (ha : goodRt a = true) (hb : goodRt b = true) (h : (subRt a b).2 = true) : qR (subRt a b).1 = qR a - qR b := by
  have h1 := denmul ha hb
  have h2 := den_pos ha
  have h3 := den_pos hb
  unfold subRt at h ⊢
  rw [q_low (by omega) h]
  unfold qR
  rw [Rat.intCast_sub, Rat.intCast_mul, Rat.intCast_mul, Rat.intCast_mul]
  grind
theorem q_add {a b : Rt} (ha : goodRt a = true) (hb : goodRt b = true) (h : (addRt a b).2 = true) : qR (addRt a b).1 = qR a + qR b := by
  have h1 := denmul ha hb
  have h2 := den_pos ha
  have h3 := den_pos hb
  unfold addRt at h ⊢
  rw [q_low (by omega) h]
  unfold qR
  rw [Rat.intCast_add, Rat.intCast_mul, Rat.intCast_mul, Rat.intCast_mul]
  grind
theorem q_mul {a b : Rt} (ha : goodRt a = true) (hb : goodRt b = true) (h : (mulRt a b).2 = true) : qR (mulRt a b).1 = qR a * qR b := by
  have h1 := denmul ha hb
  have h2 := den_pos ha
  have h3 := den_pos hb
  unfold mulRt at h ⊢
  rw [q_low (by omega) h]
  unfold qR
  rw [Rat.intCast_mul, Rat.intCast_mul]
  grind
theorem q_div {a b : Rt} (ha : goodRt a = true) (hb : goodRt b = true) (hb0 : b.num ≠ 0) (h : (divRt a b).2 = true) : qR (divRt a b).1 * qR b = qR a := by
  have h2 := den_pos ha
  have h3 := den_pos hb
  have h5 : (b.num : Rat) ≠ 0 := fun h => hb0 (Rat.intCast_eq_zero_iff.1 h)
  have h1 := (goodRt_iff.1 ha).1
  unfold divRt at h ⊢
  rw [q_low (by intro h; rcases Int.mul_eq_zero.1 h with h | h <;> omega) h]
  unfold qR
  rw [Rat.intCast_mul, Rat.intCast_mul]
  grind
theorem low_bd {n d : Int} (h : (lowRt n d).2 = true) : (lowRt n d).1.num.natAbs ≤ n.natAbs ∧ (lowRt n d).1.den ≤ d.natAbs := by
  cases hg : goodRt ⟨n.tdiv (gsgn n d), d.tdiv (gsgn n d)⟩ with
  | false => rw [lowRt_f hg] at h; cases h
  | true =>
    rw [lowRt_t hg]
    have := @tdiv_bd n (gsgn n d)
    have := @tdiv_bd d (gsgn n d)
    exact ⟨by omega, by dsimp only; omega⟩
abbrev ltR (a b : Rt) : Prop := a.num * b.den < b.num * a.den
theorem q_zero : qR ⟨0, 1⟩ = 0 := by unfold qR; dsimp only; grind
theorem q_one : qR ⟨1, 1⟩ = 1 := by unfold qR; dsimp only; grind
theorem q_unit {r : Rt} (h : goodRt r = true) : unitRt r = true ↔ (0 ≤ qR r ∧ qR r ≤ 1) := by
  have h1 := q_lt h good_zero
  have h2 := q_lt good_one h
  rw [q_zero] at h1
  rw [q_one] at h2
  dsimp only at h1 h2
  rw [unitRt_iff]
  constructor
  · intro ⟨_, h3, h4⟩
    constructor
    · by_cases h6 : qR r < 0
      · have := h1.2 h6; omega
      · grind
    · by_cases h6 : 1 < qR r
      · have := h2.2 h6; omega
      · grind
  · intro ⟨h3, h4⟩
    refine ⟨h, ?_, ?_⟩
    · rcases Int.lt_or_le r.num 0 with h5 | h5
      · have := h1.1 (by omega); grind
      · exact h5
    · rcases Int.lt_or_le r.den r.num with h5 | h5
      · have := h2.1 (by omega); grind
      · exact h5

abbrev zP : Pt := ⟨⟨0, 0⟩, ⟨0, 0⟩⟩
noncomputable def coordRt (r : Rt) : Bool := unitRt r && decide (r.den ≤ 100)
noncomputable def ptOk (p : Pt) : Bool := coordRt p.x && coordRt p.y
def risR (l : List Rt) : Bool := (List.range (l.length - 1)).all fun i => lessRt (getA zR l i) (getA zR l (i + 1))
noncomputable def mapOk (f : List Pt) : Bool := inB f.length 2 12 && (f.all ptOk && (decide ((getA zP f 0).x = ⟨0, 1⟩) && (decide ((getA zP f (f.length - 1)).x = ⟨1, 1⟩) && risR (f.map Pt.x))))
theorem coord_iff {r : Rt} : coordRt r = true ↔ (goodRt r = true ∧ 0 ≤ r.num ∧ r.num ≤ r.den ∧ 1 ≤ r.den ∧ r.den ≤ 100) := by
  unfold coordRt
  rw [Bool.and_eq_true, unitRt_iff, decide_eq_true_eq]
  constructor
  · intro ⟨⟨h1, h2, h3⟩, h4⟩; exact ⟨h1, h2, h3, (goodRt_iff.1 h1).1, h4⟩
  · intro ⟨h1, h2, h3, _, h4⟩; exact ⟨⟨h1, h2, h3⟩, h4⟩
theorem ptOk_iff {p : Pt} : ptOk p = true ↔ (coordRt p.x = true ∧ coordRt p.y = true) := by
  unfold ptOk; rw [Bool.and_eq_true]
theorem coord_good {r : Rt} (h : coordRt r = true) : goodRt r = true := (coord_iff.1 h).1
theorem coord_unit {r : Rt} (h : coordRt r = true) : unitRt r = true := by
  have := coord_iff.1 h; exact unitRt_iff.2 ⟨this.1, this.2.1, this.2.2.1⟩
theorem unit_good {r : Rt} (h : unitRt r = true) : goodRt r = true := (unitRt_iff.1 h).1
theorem getA_map {α β : Type} (g : α → β) (d : α) (e : β) (l : List α) (i : Nat) (h : i < l.length) : getA e (l.map g) i = g (getA d l i) := by
  rw [getA_lt _ _ _ (by simpa using h), getA_lt _ _ _ h, List.getElem_map]
theorem risR_iff {l : List Rt} : risR l = true ↔ ∀ i, i + 1 < l.length → ltR (getA zR l i) (getA zR l (i + 1)) := by
  unfold risR
  rw [List.all_eq_true]
  constructor
  · intro h i hi
    have := h i (List.mem_range.2 (by omega))
    simpa [lessRt] using this
  · intro h i hi
    have := h i (by have := List.mem_range.1 hi; omega)
    simpa [lessRt] using this
theorem mapOk_iff {f : List Pt} : mapOk f = true ↔ ((2 ≤ f.length ∧ f.length ≤ 12) ∧ (∀ p ∈ f, ptOk p = true) ∧ (getA zP f 0).x = ⟨0, 1⟩ ∧ (getA zP f (f.length - 1)).x = ⟨1, 1⟩ ∧ ∀ i, i + 1 < f.length → ltR (getA zP f i).x (getA zP f (i + 1)).x) := by
  unfold mapOk inB
  simp only [Bool.and_eq_true, decide_eq_true_eq, List.all_eq_true, risR_iff, List.length_map]
  constructor
  · intro ⟨h1, h2, h3, h4, h5⟩
    refine ⟨by omega, h2, h3, h4, fun i hi => ?_⟩
    have := h5 i hi
    rwa [getA_map Pt.x zP _ _ _ (by omega), getA_map Pt.x zP _ _ _ (by omega)] at this
  · intro ⟨h1, h2, h3, h4, h5⟩
    refine ⟨by omega, h2, h3, h4, fun i hi => ?_⟩
    rw [getA_map Pt.x zP _ _ _ (by omega), getA_map Pt.x zP _ _ _ (by omega)]
    exact h5 i hi
theorem map_pt {f : List Pt} (h : mapOk f = true) {i : Nat} (hi : i < f.length) : ptOk (getA zP f i) = true := (mapOk_iff.1 h).2.1 _ (getA_mem _ hi)

/-- the slope of a piece -/
noncomputable def slR (p q : Pt) : Rt := (divRt (subRt q.y p.y).1 (subRt q.x p.x).1).1
theorem sub_coord {a b : Rt} (ha : coordRt a = true) (hb : coordRt b = true) : (subRt a b).2 = true ∧ goodRt (subRt a b).1 = true ∧ (-10000 ≤ (subRt a b).1.num ∧ (subRt a b).1.num ≤ 10000) ∧ (1 ≤ (subRt a b).1.den ∧ (subRt a b).1.den ≤ 10000) := by
  have h1 := coord_iff.1 ha
  have h2 := coord_iff.1 hb
  have m1 := mul_bd (A := 100) (B := 100) (a := a.num) (b := b.den) (by omega) (by omega) (by omega) (by omega) (by omega)
  have m2 := mul_bd (A := 100) (B := 100) (a := b.num) (b := a.den) (by omega) (by omega) (by omega) (by omega) (by omega)
  have m3 := mul_bd (A := 100) (B := 100) (a := a.den) (b := b.den) (by omega) (by omega) (by omega) (by omega) (by omega)
  have m4 := Int.mul_nonneg (a := a.num) (b := b.den) (by omega) (by omega)
  have m5 := Int.mul_nonneg (a := b.num) (b := a.den) (by omega) (by omega)
  have m6 := Int.mul_pos (a := a.den) (b := b.den) (by omega) (by omega)
  have s : (subRt a b).2 = true := by unfold subRt; exact low_small (by omega) (by omega) (by omega)
  have g : goodRt (subRt a b).1 = true := lowRt_good1 s
  have := low_bd s
  have := (goodRt_iff.1 g).1
  unfold subRt at *
  exact ⟨s, g, by omega, by omega⟩
theorem sub_num_pos {a b : Rt} (ha : goodRt a = true) (hb : goodRt b = true) (hs : (subRt a b).2 = true) (h : ltR b a) : 0 < (subRt a b).1.num := by
  have e := low_val hs
  have g := (goodRt_iff.1 (lowRt_good1 hs)).1
  have d := denmul ha hb
  have h1 : 0 < a.num * b.den - b.num * a.den := by have : b.num * a.den < a.num * b.den := h; omega
  have h2 := Int.mul_pos h1 (b := (lowRt (a.num * b.den - b.num * a.den) (a.den * b.den)).1.den) (by omega)
  rw [← e] at h2
  unfold subRt
  rcases Int.lt_or_le 0 (lowRt (a.num * b.den - b.num * a.den) (a.den * b.den)).1.num with h3 | h3
  · exact h3
  · have := Int.mul_nonpos_of_nonpos_of_nonneg h3 (show 0 ≤ a.den * b.den by omega); omega
theorem slR_ok {p q : Pt} (hp : ptOk p = true) (hq : ptOk q = true) (h : ltR p.x q.x) :
    (divRt (subRt q.y p.y).1 (subRt q.x p.x).1).2 = true ∧ goodRt (slR p q) = true ∧ qR (slR p q) * (qR q.x - qR p.x) = qR q.y - qR p.y := by
  rw [ptOk_iff] at hp hq
  obtain ⟨a1, a2, a3, a4⟩ := sub_coord hq.2 hp.2
  obtain ⟨b1, b2, b3, b4⟩ := sub_coord hq.1 hp.1
  have b5 := sub_num_pos (coord_good hq.1) (coord_good hp.1) b1 h
  have m1 := mul_bd (A := 10000) (B := 10000) (a := (subRt q.y p.y).1.num) (b := (subRt q.x p.x).1.den) (by omega) (by omega) (by omega) (by omega) (by omega)
  have m3 := mul_bd (A := 10000) (B := 10000) (a := (subRt q.y p.y).1.den) (b := (subRt q.x p.x).1.num) (by omega) (by omega) (by omega) (by omega) (by omega)
  have m6 := Int.mul_pos (a := (subRt q.y p.y).1.den) (b := (subRt q.x p.x).1.num) (by omega) (by omega)
  have s : (divRt (subRt q.y p.y).1 (subRt q.x p.x).1).2 = true := by unfold divRt; exact low_small (by omega) (by omega) (by omega)
  refine ⟨s, lowRt_good1 s, ?_⟩
  have e := q_div a2 b2 (by omega) s
  rw [q_sub (coord_good hq.2) (coord_good hp.2) a1, q_sub (coord_good hq.1) (coord_good hp.1) b1] at e
  exact e

/-- the slopes of the first pieces -/
noncomputable def slL (f : List Pt) (n : Nat) : List Rt := (List.range n).map fun i => slR (getA zP f i) (getA zP f (i + 1))
theorem slL_length (f : List Pt) (n : Nat) : (slL f n).length = n := by simp [slL]
theorem slL_succ (f : List Pt) (n : Nat) : slL f n ++ [slR (getA zP f n) (getA zP f (n + 1))] = slL f (n + 1) := by
  unfold slL; rw [List.range_succ, List.map_append]; rfl
/-- Y + s (x - X) -/
noncomputable def lineR (p : Pt) (s x : Rt) : Rt × Bool := match (subRt x p.x).2 with
  | true => match (mulRt s (subRt x p.x).1).2 with
    | true => addRt p.y (mulRt s (subRt x p.x).1).1
    | false => (⟨0, 0⟩, false)
  | false => (⟨0, 0⟩, false)
noncomputable def lineO (p : Pt) (s x : Rt) : Rt := opR (addRt p.y (opR (mulRt s (opR (subRt x p.x)))))
theorem lineR_1 {p : Pt} {s x : Rt} (h : (subRt x p.x).2 = false) : lineR p s x = (⟨0, 0⟩, false) := by unfold lineR; rw [h]
theorem lineR_2 {p : Pt} {s x : Rt} (h1 : (subRt x p.x).2 = true) (h : (mulRt s (subRt x p.x).1).2 = false) : lineR p s x = (⟨0, 0⟩, false) := by unfold lineR; rw [h1, h]
theorem lineR_3 {p : Pt} {s x : Rt} (h1 : (subRt x p.x).2 = true) (h : (mulRt s (subRt x p.x).1).2 = true) : lineR p s x = addRt p.y (mulRt s (subRt x p.x).1).1 := by unfold lineR; rw [h1, h]
theorem lineR_bad {p : Pt} {s x : Rt} (h : (lineR p s x).2 = false) : lineR p s x = (⟨0, 0⟩, false) := by
  cases h1 : (subRt x p.x).2 with
  | false => exact lineR_1 h1
  | true => cases h2 : (mulRt s (subRt x p.x).1).2 with
    | false => exact lineR_2 h1 h2
    | true => rw [lineR_3 h1 h2] at h ⊢; exact lowRt_bad h
theorem opR_p (a : Rt) : opR (a, true) = a := opR_t rfl
theorem opR_f {r : Rt × Bool} (h : r.2 = false) : opR r = ⟨0, 1⟩ := by unfold opR; rw [h]
theorem line_flag (c : Bool) (p : Pt) (s x : Rt) : (((c || !(subRt x p.x).2) || !(mulRt s (opR (subRt x p.x))).2) || !(addRt p.y (opR (mulRt s (opR (subRt x p.x))))).2) = (c || !(lineR p s x).2) := by
  cases h1 : (subRt x p.x).2 with
  | false => rw [lineR_1 h1]; simp
  | true =>
    rw [opR_t h1]
    cases h2 : (mulRt s (subRt x p.x).1).2 with
    | false => rw [lineR_2 h1 h2]; simp
    | true => rw [lineR_3 h1 h2, opR_t h2]; simp
theorem lineO_t {p : Pt} {s x : Rt} (h : (lineR p s x).2 = true) : lineO p s x = (lineR p s x).1 := by
  cases h1 : (subRt x p.x).2 with
  | false => rw [lineR_1 h1] at h; cases h
  | true =>
    cases h2 : (mulRt s (subRt x p.x).1).2 with
    | false => rw [lineR_2 h1 h2] at h; cases h
    | true =>
      rw [lineR_3 h1 h2] at h ⊢
      unfold lineO
      rw [opR_t h1, opR_t h2, opR_t h]
theorem mul_zero_r {s : Rt} (h : goodRt s = true) : mulRt s ⟨0, 1⟩ = (⟨0, 1⟩, true) := by
  have h1 := goodRt_iff.1 h
  unfold mulRt
  dsimp only
  rw [Int.mul_zero, Int.mul_one]
  have hs := low_small (n := 0) (d := s.den) (by omega) (by omega) (by omega)
  have hg := lowRt_good1 hs
  have hv := low_val hs
  have e : (lowRt 0 s.den).1 = ⟨0, 1⟩ := good_eq hg good_zero (by
    dsimp only
    rw [Int.zero_mul] at hv ⊢
    rcases Int.mul_eq_zero.1 hv with h | h
    · rw [h]; rfl
    · omega)
  rw [pair_t hs, e]
theorem add_zero_r {a : Rt} (h : goodRt a = true) : addRt a ⟨0, 1⟩ = (a, true) := by
  unfold addRt
  dsimp only
  rw [Int.mul_one, Int.mul_one, Int.zero_mul, Int.add_zero]
  exact lowRt_good h
theorem unit_zero : unitRt ⟨0, 1⟩ = true := unitRt_iff.2 ⟨good_zero, by decide⟩
theorem unit_one : unitRt ⟨1, 1⟩ = true := unitRt_iff.2 ⟨good_one, by decide⟩
theorem lineO_bad {p : Pt} {s x : Rt} (hp : unitRt p.y = true) (hs : goodRt s = true) (h : (lineR p s x).2 = false) : unitRt (lineO p s x) = true := by
  unfold lineO
  cases h1 : (subRt x p.x).2 with
  | false =>
    rw [opR_f h1, mul_zero_r hs, opR_p, add_zero_r (unit_good hp), opR_p]; exact hp
  | true =>
    cases h2 : (mulRt s (subRt x p.x).1).2 with
    | false => rw [opR_t h1, opR_f h2, add_zero_r (unit_good hp), opR_p]; exact hp
    | true =>
      rw [lineR_3 h1 h2] at h
      rw [opR_t h1, opR_t h2, opR_f h]; exact unit_zero
/-- the value between two points lies between theirs -/
theorem line_unit {p q : Pt} {x : Rt} (hp : ptOk p = true) (hq : ptOk q = true) (h : ltR p.x q.x) (hx : goodRt x = true) (h1 : ¬ ltR x p.x) (h2 : ¬ ltR q.x x) (ho : (lineR p (slR p q) x).2 = true) : unitRt (lineR p (slR p q) x).1 = true := by
  obtain ⟨s1, s2, s3⟩ := slR_ok hp hq h
  rw [ptOk_iff] at hp hq
  have gx := coord_good hp.1
  have gy := coord_good hp.2
  have gX := coord_good hq.1
  have gY := coord_good hq.2
  cases e1 : (subRt x p.x).2 with
  | false => rw [lineR_1 e1] at ho; cases ho
  | true =>
    cases e2 : (mulRt (slR p q) (subRt x p.x).1).2 with
    | false => rw [lineR_2 e1 e2] at ho; cases ho
    | true =>
      rw [lineR_3 e1 e2] at ho ⊢
      have g1 : goodRt (subRt x p.x).1 = true := lowRt_good1 e1
      have g2 : goodRt (mulRt (slR p q) (subRt x p.x).1).1 = true := lowRt_good1 e2
      have g3 : goodRt (addRt p.y (mulRt (slR p q) (subRt x p.x).1).1).1 = true := lowRt_good1 ho
      rw [q_unit g3, q_add gy g2 ho, q_mul s2 g1 e2, q_sub hx gx e1]
      have l1 := (q_lt gx gX).1 h
      have l2 : qR p.x ≤ qR x := Rat.not_lt.1 fun hh => h1 ((q_lt hx gx).2 hh)
      have l3 : qR x ≤ qR q.x := Rat.not_lt.1 fun hh => h2 ((q_lt gX hx).2 hh)
      have u1 := (q_unit gy).1 (coord_unit hp.2)
      have u2 := (q_unit gY).1 (coord_unit hq.2)
      have m1 := Rat.mul_nonneg u1.1 (show 0 ≤ qR q.x - qR x by grind)
      have m2 := Rat.mul_nonneg u2.1 (show 0 ≤ qR x - qR p.x by grind)
      have m3 := Rat.mul_nonneg (show 0 ≤ 1 - qR p.y by grind) (show 0 ≤ qR q.x - qR x by grind)
      have m4 := Rat.mul_nonneg (show 0 ≤ 1 - qR q.y by grind) (show 0 ≤ qR x - qR p.x by grind)
      have lp : 0 < qR q.x - qR p.x := by grind
      have key : (qR p.y + qR (slR p q) * (qR x - qR p.x)) * (qR q.x - qR p.x) = qR p.y * (qR q.x - qR x) + qR q.y * (qR x - qR p.x) := by grind
      constructor
      · by_cases h6 : qR p.y + qR (slR p q) * (qR x - qR p.x) < 0
        · have := Rat.mul_pos (show 0 < -(qR p.y + qR (slR p q) * (qR x - qR p.x)) by grind) lp; grind
        · grind
      · by_cases h6 : 1 < qR p.y + qR (slR p q) * (qR x - qR p.x)
        · have := Rat.mul_pos (show 0 < (qR p.y + qR (slR p q) * (qR x - qR p.x)) - 1 by grind) lp; grind
        · grind

/-- the first piece that has x -/
def pcN (f : List Pt) (x : Rt) : Nat := (idxF (fun p : Pt => !lessRt p.x x) f - 1).toNat
theorem pc_spec {f : List Pt} {x : Rt} (h : mapOk f = true) (hx : unitRt x = true) : pcN f x + 1 < f.length ∧ ¬ ltR x (getA zP f (pcN f x)).x ∧ ¬ ltR (getA zP f (pcN f x + 1)).x x ∧ ∀ j, 0 < j → j ≤ pcN f x → ltR (getA zP f j).x x := by
  obtain ⟨h1, h2, h3, h4, h5⟩ := mapOk_iff.1 h
  have hu := unitRt_iff.1 hx
  have hden := (goodRt_iff.1 hu.1).1
  have hlast : (fun p : Pt => !lessRt p.x x) (getA zP f (f.length - 1)) = true := by
    dsimp only
    rw [h4]
    simp [lessRt]
    omega
  have hex : f.findIdx? (fun p : Pt => !lessRt p.x x) ≠ none := by
    rw [ne_eq, List.findIdx?_eq_none_iff]
    intro hn
    have h6 : (!lessRt (getA zP f (f.length - 1)).x x) = true := hlast
    rw [hn _ (getA_mem zP (by omega))] at h6
    cases h6
  cases hf : f.findIdx? (fun p : Pt => !lessRt p.x x) with
  | none => exact (hex hf).elim
  | some k =>
    obtain ⟨k1, k2, k3⟩ := List.findIdx?_eq_some_iff_getElem.1 hf
    have e : pcN f x = k - 1 := by unfold pcN idxF; rw [hf]; dsimp only; omega
    have k2' : ¬ ltR (getA zP f k).x x := by
      rw [getA_lt _ _ _ k1]; simpa [lessRt] using k2
    have k3' : ∀ j, j < k → ltR (getA zP f j).x x := by
      intro j hj
      have := k3 j hj
      rw [getA_lt _ _ _ (by omega)]; simpa [lessRt] using this
    rw [e]
    rcases Nat.eq_zero_or_pos k with hk | hk
    · subst hk
      have hx0 : x.num = 0 := by
        rw [h3] at k2'
        have : ¬ ((0 : Int) * x.den < x.num * 1) := k2'
        omega
      refine ⟨by omega, ?_, ?_, fun j hj hj2 => by omega⟩
      · rw [h3]
        show ¬ (x.num * 1 < 0 * x.den)
        omega
      · have hp := ptOk_iff.1 (h2 _ (getA_mem zP (l := f) (i := 1) (by omega)))
        have hc := coord_iff.1 hp.1
        show ¬ ((getA zP f (0 - 1 + 1)).x.num * x.den < x.num * (getA zP f (0 - 1 + 1)).x.den)
        have := Int.mul_nonneg hc.2.1 (show 0 ≤ x.den by omega)
        rw [hx0, Int.zero_mul]
        show ¬ ((getA zP f 1).x.num * x.den < 0)
        omega
    · have ek : k - 1 + 1 = k := by omega
      rw [ek]
      refine ⟨k1, ?_, k2', fun j hj hj2 => k3' j (by omega)⟩
      have := k3' (k - 1) (by omega)
      show ¬ (_ < _)
      have : (getA zP f (k - 1)).x.num * x.den < x.num * (getA zP f (k - 1)).x.den := this
      omega
/-- a piece found step by step is this piece -/
theorem pc_uniq {f : List Pt} {x : Rt} (h : mapOk f = true) (hx : unitRt x = true) {i : Nat} (h1 : ∀ j, 0 < j → j ≤ i → ltR (getA zP f j).x x) (h2 : ¬ (i + 2 < f.length ∧ ltR (getA zP f (i + 1)).x x)) (h3 : i + 1 < f.length) : i = pcN f x := by
  obtain ⟨p1, p2, p3, p4⟩ := pc_spec h hx
  rcases Nat.lt_trichotomy i (pcN f x) with h4 | h4 | h4
  · exact (h2 ⟨by omega, p4 (i + 1) (by omega) (by omega)⟩).elim
  · exact h4
  · exact (p3 (h1 (pcN f x + 1) (by omega) (by omega))).elim

/-- the value of a map -/
@[irreducible] noncomputable def vR (f : List Pt) (x : Rt) : Rt × Bool := lineR (getA zP f (pcN f x)) (slR (getA zP f (pcN f x)) (getA zP f (pcN f x + 1))) x
@[irreducible] noncomputable def vO (f : List Pt) (x : Rt) : Rt := lineO (getA zP f (pcN f x)) (slR (getA zP f (pcN f x)) (getA zP f (pcN f x + 1))) x
theorem vR_bad {f : List Pt} {x : Rt} (h : (vR f x).2 = false) : vR f x = (⟨0, 0⟩, false) := by unfold vR at h ⊢; exact lineR_bad h
theorem vO_t {f : List Pt} {x : Rt} (h : (vR f x).2 = true) : vO f x = (vR f x).1 := by unfold vR at h ⊢; unfold vO; exact lineO_t h
theorem vO_unit {f : List Pt} {x : Rt} (h : mapOk f = true) (hx : unitRt x = true) : unitRt (vO f x) = true := by
  obtain ⟨p1, p2, p3, p4⟩ := pc_spec h hx
  obtain ⟨h1, h2, h3, h4, h5⟩ := mapOk_iff.1 h
  have a1 := map_pt h (i := pcN f x) (by omega)
  have a2 := map_pt h (i := pcN f x + 1) (by omega)
  obtain ⟨s1, s2, s3⟩ := slR_ok a1 a2 (h5 _ p1)
  cases hv : (vR f x).2 with
  | true => rw [vO_t hv]; unfold vR at hv ⊢; exact line_unit a1 a2 (h5 _ p1) (unit_good hx) p2 p3 hv
  | false => unfold vR at hv; unfold vO; exact lineO_bad (coord_unit (ptOk_iff.1 a1).2) s2 hv
theorem vR_unit {f : List Pt} {x : Rt} (h : mapOk f = true) (hx : unitRt x = true) (hv : (vR f x).2 = true) : unitRt (vR f x).1 = true := by
  rw [← vO_t hv]; exact vO_unit h hx
end Go.Vx
