/- Changes: plain facts. -/
import Derived.Test.YtlknhfldkkjclaaVpMap
namespace Go.Vx
open Go
set_option maxRecDepth 100000
set_option linter.unusedSimpArgs false
set_option linter.unusedVariables false

theorem q_eq {a b : Rt} (ha : goodRt a = true) (hb : goodRt b = true) (h : qR a = qR b) : a = b := by
  have h1 := q_lt ha hb
  have h2 := q_lt hb ha
  have h3 : ¬ qR a < qR b := by grind
  have h4 : ¬ qR b < qR a := by grind
  apply good_eq ha hb
  have h5 : ¬ a.num * b.den < b.num * a.den := fun h => h3 (h1.1 h)
  have h6 : ¬ b.num * a.den < a.num * b.den := fun h => h4 (h2.1 h)
  omega
theorem q_pos {r : Rt} (h : goodRt r = true) : 0 < r.num ↔ 0 < qR r := by
  have h1 := q_lt good_zero h
  rw [q_zero] at h1
  dsimp only at h1
  rw [← h1]; omega
/-- a slope is greater than 0 if the values rise -/
theorem sl_pos {p q : Pt} (hp : ptOk p = true) (hq : ptOk q = true) (h : ltR p.x q.x) : 0 < (slR p q).num ↔ ltR p.y q.y := by
  obtain ⟨s1, s2, s3⟩ := slR_ok hp hq h
  rw [ptOk_iff] at hp hq
  have gx := coord_good hp.1
  have gy := coord_good hp.2
  have gX := coord_good hq.1
  have gY := coord_good hq.2
  have l1 := (q_lt gx gX).1 h
  rw [q_pos s2, show ltR p.y q.y ↔ qR p.y < qR q.y from q_lt gy gY]
  constructor
  · intro h2
    have := Rat.mul_pos h2 (show 0 < qR q.x - qR p.x by grind); grind
  · intro h2
    by_cases h3 : 0 < qR (slR p q)
    · exact h3
    · by_cases h4 : qR (slR p q) = 0
      · rw [h4] at s3; grind
      · have := Rat.mul_pos (show 0 < -qR (slR p q) by grind) (show 0 < qR q.x - qR p.x by grind); grind
def exR (f : List Pt) : List Pt := f.map fun p => ⟨p.y, p.x⟩
theorem exR_length (f : List Pt) : (exR f).length = f.length := by simp [exR]
theorem exR_get {f : List Pt} {i : Nat} (h : i < f.length) : getA zP (exR f) i = ⟨(getA zP f i).y, (getA zP f i).x⟩ := getA_map _ zP zP f i h
noncomputable def chOk (h : List Pt) : Bool := mapOk h && (eqRt (getA zP h 0).y ⟨0, 1⟩ && (eqRt (getA zP h (h.length - 1)).y ⟨1, 1⟩ && risR (h.map Pt.y)))
theorem chOk_iff {h : List Pt} : chOk h = true ↔ (mapOk h = true ∧ (getA zP h 0).y = ⟨0, 1⟩ ∧ (getA zP h (h.length - 1)).y = ⟨1, 1⟩ ∧ ∀ i, i + 1 < h.length → ltR (getA zP h i).y (getA zP h (i + 1)).y) := by
  unfold chOk
  simp only [Bool.and_eq_true, risR_iff, List.length_map, show ∀ a b, (eqRt a b = true) = (a = b) from fun a b => by unfold eqRt; simp]
  constructor
  · intro ⟨h1, h2, h3, h4⟩
    refine ⟨h1, h2, h3, fun i hi => ?_⟩
    have := h4 i hi
    rwa [getA_map Pt.y zP _ _ _ (by omega), getA_map Pt.y zP _ _ _ (by omega)] at this
  · intro ⟨h1, h2, h3, h4⟩
    refine ⟨h1, h2, h3, fun i hi => ?_⟩
    rw [getA_map Pt.y zP _ _ _ (by omega), getA_map Pt.y zP _ _ _ (by omega)]
    exact h4 i hi
theorem ex_map {h : List Pt} (hc : chOk h = true) : mapOk (exR h) = true := by
  obtain ⟨h1, h2, h3, h4⟩ := chOk_iff.1 hc
  obtain ⟨m1, m2, m3, m4, m5⟩ := mapOk_iff.1 h1
  rw [mapOk_iff, exR_length]
  refine ⟨m1, fun p hp => ?_, ?_, ?_, fun i hi => ?_⟩
  · obtain ⟨q, hq, rfl⟩ := List.mem_map.1 hp
    have := ptOk_iff.1 (m2 q hq)
    exact ptOk_iff.2 ⟨this.2, this.1⟩
  · rw [exR_get (by omega)]; exact h2
  · rw [exR_get (by omega)]; exact h3
  · rw [exR_get (by omega), exR_get hi]; exact h4 i hi

/-- X + (y - Y) / s -/
noncomputable def backR (p : Pt) (s y : Rt) : Rt × Bool := match (subRt y p.y).2 with
  | true => match (divRt (subRt y p.y).1 s).2 with
    | true => addRt p.x (divRt (subRt y p.y).1 s).1
    | false => (⟨0, 0⟩, false)
  | false => (⟨0, 0⟩, false)
noncomputable def backO (p : Pt) (s y : Rt) : Rt := opR (addRt p.x (opR (divRt (opR (subRt y p.y)) s)))
theorem backR_1 {p : Pt} {s y : Rt} (h : (subRt y p.y).2 = false) : backR p s y = (⟨0, 0⟩, false) := by unfold backR; rw [h]
theorem backR_2 {p : Pt} {s y : Rt} (h1 : (subRt y p.y).2 = true) (h : (divRt (subRt y p.y).1 s).2 = false) : backR p s y = (⟨0, 0⟩, false) := by unfold backR; rw [h1, h]
theorem backR_3 {p : Pt} {s y : Rt} (h1 : (subRt y p.y).2 = true) (h : (divRt (subRt y p.y).1 s).2 = true) : backR p s y = addRt p.x (divRt (subRt y p.y).1 s).1 := by unfold backR; rw [h1, h]
theorem backR_bad {p : Pt} {s y : Rt} (h : (backR p s y).2 = false) : backR p s y = (⟨0, 0⟩, false) := by
  cases h1 : (subRt y p.y).2 with
  | false => exact backR_1 h1
  | true => cases h2 : (divRt (subRt y p.y).1 s).2 with
    | false => exact backR_2 h1 h2
    | true => rw [backR_3 h1 h2] at h ⊢; exact lowRt_bad h
theorem back_flag (c : Bool) (p : Pt) (s y : Rt) : (((c || !(subRt y p.y).2) || !(divRt (opR (subRt y p.y)) s).2) || !(addRt p.x (opR (divRt (opR (subRt y p.y)) s))).2) = (c || !(backR p s y).2) := by
  cases h1 : (subRt y p.y).2 with
  | false => rw [backR_1 h1]; simp
  | true =>
    rw [opR_t h1]
    cases h2 : (divRt (subRt y p.y).1 s).2 with
    | false => rw [backR_2 h1 h2]; simp
    | true => rw [backR_3 h1 h2, opR_t h2]; simp
theorem backO_t {p : Pt} {s y : Rt} (h : (backR p s y).2 = true) : backO p s y = (backR p s y).1 := by
  cases h1 : (subRt y p.y).2 with
  | false => rw [backR_1 h1] at h; cases h
  | true =>
    cases h2 : (divRt (subRt y p.y).1 s).2 with
    | false => rw [backR_2 h1 h2] at h; cases h
    | true =>
      rw [backR_3 h1 h2] at h ⊢
      unfold backO
      rw [opR_t h1, opR_t h2, opR_t h]
/-- where a rising piece has a value between its ends lies between them -/
theorem back_unit {p q : Pt} {y : Rt} (hp : ptOk p = true) (hq : ptOk q = true) (h : ltR p.x q.x) (hr : ltR p.y q.y) (hy : goodRt y = true) (h1 : ¬ ltR y p.y) (h2 : ¬ ltR q.y y) (ho : (backR p (slR p q) y).2 = true) : unitRt (backR p (slR p q) y).1 = true := by
  obtain ⟨s1, s2, s3⟩ := slR_ok hp hq h
  have s4 := (sl_pos hp hq h).2 hr
  have s5 := (q_pos s2).1 s4
  rw [ptOk_iff] at hp hq
  have gx := coord_good hp.1
  have gy := coord_good hp.2
  have gX := coord_good hq.1
  have gY := coord_good hq.2
  cases e1 : (subRt y p.y).2 with
  | false => rw [backR_1 e1] at ho; cases ho
  | true =>
    cases e2 : (divRt (subRt y p.y).1 (slR p q)).2 with
    | false => rw [backR_2 e1 e2] at ho; cases ho
    | true =>
      rw [backR_3 e1 e2] at ho ⊢
      have g1 : goodRt (subRt y p.y).1 = true := lowRt_good1 e1
      have g2 : goodRt (divRt (subRt y p.y).1 (slR p q)).1 = true := lowRt_good1 e2
      have g3 : goodRt (addRt p.x (divRt (subRt y p.y).1 (slR p q)).1).1 = true := lowRt_good1 ho
      have d := q_div g1 s2 (by omega) e2
      rw [q_sub hy gy e1] at d
      rw [q_unit g3, q_add gx g2 ho]
      have l1 := (q_lt gx gX).1 h
      have l2 : qR p.y ≤ qR y := Rat.not_lt.1 fun hh => h1 ((q_lt hy gy).2 hh)
      have l3 : qR y ≤ qR q.y := Rat.not_lt.1 fun hh => h2 ((q_lt gY hy).2 hh)
      have u1 := (q_unit gx).1 (coord_unit hp.1)
      have u2 := (q_unit gX).1 (coord_unit hq.1)
      have n1 : 0 ≤ qR (divRt (subRt y p.y).1 (slR p q)).1 := by
        by_cases h6 : qR (divRt (subRt y p.y).1 (slR p q)).1 < 0
        · have := Rat.mul_pos (show 0 < -qR (divRt (subRt y p.y).1 (slR p q)).1 by grind) s5; grind
        · grind
      have n2 : qR (divRt (subRt y p.y).1 (slR p q)).1 ≤ qR q.x - qR p.x := by
        by_cases h6 : qR q.x - qR p.x < qR (divRt (subRt y p.y).1 (slR p q)).1
        · have := Rat.mul_pos (show 0 < qR (divRt (subRt y p.y).1 (slR p q)).1 - (qR q.x - qR p.x) by grind) s5; grind
        · grind
      constructor <;> grind
/-- where a change has a value -/
@[irreducible] noncomputable def chB (h : List Pt) (y : Rt) : Rt × Bool := backR (getA zP h (pcN (exR h) y)) (slR (getA zP h (pcN (exR h) y)) (getA zP h (pcN (exR h) y + 1))) y
@[irreducible] noncomputable def chO (h : List Pt) (y : Rt) : Rt := backO (getA zP h (pcN (exR h) y)) (slR (getA zP h (pcN (exR h) y)) (getA zP h (pcN (exR h) y + 1))) y
theorem chB_bad {h : List Pt} {y : Rt} (hb : (chB h y).2 = false) : chB h y = (⟨0, 0⟩, false) := by unfold chB at hb ⊢; exact backR_bad hb
theorem chO_t {h : List Pt} {y : Rt} (hb : (chB h y).2 = true) : chO h y = (chB h y).1 := by unfold chB at hb ⊢; unfold chO; exact backO_t hb
theorem ch_piece {h : List Pt} {y : Rt} (hc : chOk h = true) (hy : unitRt y = true) : pcN (exR h) y + 1 < h.length ∧ ¬ ltR y (getA zP h (pcN (exR h) y)).y ∧ ¬ ltR (getA zP h (pcN (exR h) y + 1)).y y := by
  obtain ⟨p1, p2, p3, p4⟩ := pc_spec (ex_map hc) hy
  rw [exR_length] at p1
  rw [exR_get (by omega)] at p2
  rw [exR_get (by omega)] at p3
  exact ⟨p1, p2, p3⟩
theorem chB_unit {h : List Pt} {y : Rt} (hc : chOk h = true) (hy : unitRt y = true) (hb : (chB h y).2 = true) : unitRt (chB h y).1 = true := by
  obtain ⟨p1, p2, p3⟩ := ch_piece hc hy
  obtain ⟨h1, h2, h3, h4⟩ := chOk_iff.1 hc
  obtain ⟨m1, m2, m3, m4, m5⟩ := mapOk_iff.1 h1
  unfold chB at hb ⊢
  exact back_unit (map_pt h1 (by omega)) (map_pt h1 (by omega)) (m5 _ p1) (h4 _ p1) (unit_good hy) p2 p3 hb
end Go.Vx
