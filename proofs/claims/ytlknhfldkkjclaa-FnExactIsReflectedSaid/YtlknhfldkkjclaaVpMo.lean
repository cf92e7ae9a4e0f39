/- The values of a change rise: plain law. -/
import Derived.Test.YtlknhfldkkjclaaVpIc
namespace Go.Vx
open Go
set_option maxRecDepth 100000
set_option linter.unusedSimpArgs false
set_option linter.unusedVariables false

theorem line_q {p q : Pt} {x : Rt} (hp : ptOk p = true) (hq : ptOk q = true) (h : ltR p.x q.x) (hx : goodRt x = true) (ho : (lineR p (slR p q) x).2 = true) : goodRt (lineR p (slR p q) x).1 = true ∧ qR (lineR p (slR p q) x).1 = qR p.y + qR (slR p q) * (qR x - qR p.x) := by
  obtain ⟨s1, s2, s3⟩ := slR_ok hp hq h
  rw [ptOk_iff] at hp hq
  have gx := coord_good hp.1
  have gy := coord_good hp.2
  cases e1 : (subRt x p.x).2 with
  | false => rw [lineR_1 e1] at ho; cases ho
  | true =>
    cases e2 : (mulRt (slR p q) (subRt x p.x).1).2 with
    | false => rw [lineR_2 e1 e2] at ho; cases ho
    | true =>
      rw [lineR_3 e1 e2] at ho ⊢
      have g1 : goodRt (subRt x p.x).1 = true := lowRt_good1 e1
      have g2 : goodRt (mulRt (slR p q) (subRt x p.x).1).1 = true := lowRt_good1 e2
      have g3 : goodRt (addRt p.y (mulRt (slR p q) (subRt x p.x).1).1).1 = true := lowRt_good1 ho
      exact ⟨g3, by rw [q_add gy g2 ho, q_mul s2 g1 e2, q_sub hx gx e1]⟩
/-- between the ends of a rising piece, with how far it has risen -/
theorem vR_in {h : List Pt} {x : Rt} (hc : chOk h = true) (hx : unitRt x = true) (ho : (vR h x).2 = true) :
    ∃ i s, i + 1 < h.length ∧ 0 < s ∧ qR (getA zP h i).x ≤ qR x ∧ qR x ≤ qR (getA zP h (i + 1)).x ∧ qR (vR h x).1 = qR (getA zP h i).y + s * (qR x - qR (getA zP h i).x) ∧ s * (qR (getA zP h (i + 1)).x - qR (getA zP h i).x) = qR (getA zP h (i + 1)).y - qR (getA zP h i).y := by
  obtain ⟨h1, h2, h3, h4⟩ := chOk_iff.1 hc
  obtain ⟨m1, m2, m3, m4, m5⟩ := mapOk_iff.1 h1
  obtain ⟨p1, p2, p3, p4⟩ := pc_spec h1 hx
  have hp := map_pt h1 (i := pcN h x) (by omega)
  have hq := map_pt h1 (i := pcN h x + 1) p1
  have hlt := m5 _ p1
  obtain ⟨s1, s2, s3⟩ := slR_ok hp hq hlt
  have sp := (q_pos s2).1 ((sl_pos hp hq hlt).2 (h4 _ p1))
  have gx := coord_good (ptOk_iff.1 hp).1
  have gX := coord_good (ptOk_iff.1 hq).1
  have hg := unit_good hx
  unfold vR at ho ⊢
  refine ⟨pcN h x, qR (slR (getA zP h (pcN h x)) (getA zP h (pcN h x + 1))), p1, sp, Rat.not_lt.1 fun hh => p2 ((q_lt hg gx).2 hh), Rat.not_lt.1 fun hh => p3 ((q_lt gX hg).2 hh), (line_q hp hq hlt hg ho).2, s3⟩
theorem pts_mono {h : List Pt} (hm : mapOk h = true) (g : Pt → Rt) (hg : ∀ p, ptOk p = true → goodRt (g p) = true) (hs : ∀ i, i + 1 < h.length → ltR (g (getA zP h i)) (g (getA zP h (i + 1)))) : ∀ (i k : Nat), i + k < h.length → qR (g (getA zP h i)) ≤ qR (g (getA zP h (i + k)))
  | i, 0, _ => by rw [Nat.add_zero]; exact Rat.le_refl
  | i, k + 1, hk => by
    have h1 := pts_mono hm g hg hs i k (by omega)
    have h2 := (q_lt (hg _ (map_pt hm (by omega))) (hg _ (map_pt hm (i := i + k + 1) (by omega)))).1 (hs (i + k) (by omega))
    rw [← Nat.add_assoc]
    grind
theorem vR_good {h : List Pt} {x : Rt} (hm : mapOk h = true) (hx : unitRt x = true) (ho : (vR h x).2 = true) : goodRt (vR h x).1 = true := unit_good (vR_unit hm hx ho)
/-- the values of a change rise -/
theorem vR_mono {h : List Pt} {x y : Rt} (hc : chOk h = true) (hx : unitRt x = true) (hy : unitRt y = true) (ho : (vR h x).2 = true) (ho2 : (vR h y).2 = true) (hlt : qR x < qR y) : qR (vR h x).1 < qR (vR h y).1 := by
  obtain ⟨h1, h2, h3, h4⟩ := chOk_iff.1 hc
  obtain ⟨m1, m2, m3, m4, m5⟩ := mapOk_iff.1 h1
  obtain ⟨i, s, a1, a2, a3, a4, a5, a6⟩ := vR_in hc hx ho
  obtain ⟨j, t, b1, b2, b3, b4, b5, b6⟩ := vR_in hc hy ho2
  rw [a5, b5]
  have ex : ∀ (i k : Nat), i + k < h.length → qR (getA zP h i).x ≤ qR (getA zP h (i + k)).x := pts_mono h1 Pt.x (fun p hp => coord_good (ptOk_iff.1 hp).1) m5
  have ey : ∀ (i k : Nat), i + k < h.length → qR (getA zP h i).y ≤ qR (getA zP h (i + k)).y := pts_mono h1 Pt.y (fun p hp => coord_good (ptOk_iff.1 hp).2) h4
  rcases Nat.lt_trichotomy i j with hij | hij | hij
  · -- an earlier piece
    obtain ⟨k, rfl⟩ : ∃ k, j = i + 1 + k := ⟨j - (i + 1), by omega⟩
    have c1 := ex (i + 1) k (by omega)
    have c2 := ey (i + 1) k (by omega)
    by_cases hb : qR (getA zP h (i + 1 + k)).x < qR y
    · have n1 := Rat.mul_pos b2 (show 0 < qR y - qR (getA zP h (i + 1 + k)).x by grind)
      have n2 := Rat.mul_nonneg (Rat.le_of_lt a2) (show 0 ≤ qR (getA zP h (i + 1)).x - qR x by grind)
      grind
    · have e : qR y = qR (getA zP h (i + 1 + k)).x := by grind
      by_cases ha : qR x < qR (getA zP h (i + 1)).x
      · have n2 := Rat.mul_pos a2 (show 0 < qR (getA zP h (i + 1)).x - qR x by grind)
        rw [e]; grind
      · have e2 : qR x = qR (getA zP h (i + 1)).x := by grind
        -- then the piece of y begins behind
        have hk : 0 < k := by
          rcases Nat.eq_zero_or_pos k with h0 | h0
          · subst h0
            rw [Nat.add_zero] at e; rw [e, e2] at hlt; grind
          · exact h0
        obtain ⟨m, rfl⟩ : ∃ m, k = m + 1 := ⟨k - 1, by omega⟩
        have d1 := (q_lt (coord_good (ptOk_iff.1 (map_pt h1 (i := i + 1) (by omega))).2) (coord_good (ptOk_iff.1 (map_pt h1 (i := i + 1 + 1) (by omega))).2)).1 (h4 (i + 1) (by omega))
        have d2 := ey (i + 1 + 1) m (by omega)
        rw [show i + 1 + 1 + m = i + 1 + (m + 1) by omega] at d2
        rw [e, e2]
        grind
  · subst hij
    have lp := (q_lt (coord_good (ptOk_iff.1 (map_pt h1 (i := i) (by omega))).1) (coord_good (ptOk_iff.1 (map_pt h1 (i := i + 1) (by omega))).1)).1 (m5 i a1)
    have e : s = t := by
      by_cases e : s = t
      · exact e
      · exfalso
        have : (s - t) * (qR (getA zP h (i + 1)).x - qR (getA zP h i).x) = 0 := by grind
        by_cases h5 : s < t
        · have := Rat.mul_pos (show 0 < t - s by grind) (show 0 < qR (getA zP h (i + 1)).x - qR (getA zP h i).x by grind); grind
        · have := Rat.mul_pos (show 0 < s - t by grind) (show 0 < qR (getA zP h (i + 1)).x - qR (getA zP h i).x by grind); grind
    subst e
    have := Rat.mul_pos a2 (show 0 < qR y - qR x by grind)
    grind
  · -- a later piece: not so
    exfalso
    obtain ⟨k, rfl⟩ : ∃ k, i = j + 1 + k := ⟨i - (j + 1), by omega⟩
    have c1 := ex (j + 1) k (by omega)
    grind
end Go.Vx
