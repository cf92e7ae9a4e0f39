/- Fractions as rational numbers: lowest terms keep the value, and a fraction in lowest terms is told by its value. -/
import Derived.Test.YtalgocopemmelaaGreatDoorVxC
import Derived.Test.YtalgocopemmelaaGreatDoorVpQ
namespace Go.Vx
open Go
set_option maxRecDepth 100000
set_option linter.unusedSimpArgs false
set_option linter.unusedVariables false

theorem dvd_cop {a b c : Int} (h : Int.gcd b a = 1) (h2 : a ∣ b * c) : a ∣ c := by
  apply Int.natAbs_dvd_natAbs.1
  apply Nat.Coprime.dvd_of_dvd_mul_left (k := a.natAbs) (m := b.natAbs) (n := c.natAbs)
  · have : Nat.gcd b.natAbs a.natAbs = 1 := h
    rw [Nat.Coprime, Nat.gcd_comm]; exact this
  · rw [← Int.natAbs_mul]; exact Int.natAbs_dvd_natAbs.2 h2
theorem good_eq {a b : Rt} (ha : goodRt a = true) (hb : goodRt b = true) (h : a.num * b.den = b.num * a.den) : a = b := by
  rw [goodRt_iff] at ha hb
  obtain ⟨a1, a2, a3, a4, a5⟩ := ha
  obtain ⟨b1, b2, b3, b4, b5⟩ := hb
  have d1 : a.den ∣ b.den := by
    have : a.den ∣ a.num * b.den := by rw [h]; exact Int.dvd_mul_left _ _
    exact dvd_cop (by omega) this
  have d2 : b.den ∣ a.den := by
    have : b.den ∣ b.num * a.den := by rw [← h]; exact Int.dvd_mul_left _ _
    exact dvd_cop (by omega) this
  have e1 : a.den = b.den := Int.le_antisymm (Int.le_of_dvd (by omega) d1) (Int.le_of_dvd (by omega) d2)
  have e2 : a.num = b.num := by
    rw [e1] at h
    exact Int.eq_of_mul_eq_mul_right (by omega) h
  cases a; cases b; simp_all
theorem gsgn_dvd {n d : Int} : gsgn n d ∣ n ∧ gsgn n d ∣ d := by
  unfold gsgn
  split
  · exact ⟨Int.neg_dvd.2 (Int.gcd_dvd_left ..), Int.neg_dvd.2 (Int.gcd_dvd_right ..)⟩
  · exact ⟨Int.gcd_dvd_left .., Int.gcd_dvd_right ..⟩
theorem low_val {n d : Int} (h : (lowRt n d).2 = true) : (lowRt n d).1.num * d = n * (lowRt n d).1.den := by
  obtain ⟨h1, h2⟩ := @gsgn_dvd n d
  cases hg : goodRt ⟨n.tdiv (gsgn n d), d.tdiv (gsgn n d)⟩ with
  | false => rw [lowRt_f hg] at h; cases h
  | true =>
    rw [lowRt_t hg]
    dsimp only
    have e1 := Int.tdiv_mul_cancel h1
    have e2 := Int.tdiv_mul_cancel h2
    calc n.tdiv (gsgn n d) * d = n.tdiv (gsgn n d) * (d.tdiv (gsgn n d) * gsgn n d) := by rw [e2]
      _ = (n.tdiv (gsgn n d) * gsgn n d) * d.tdiv (gsgn n d) := by rw [Int.mul_comm (d.tdiv _), Int.mul_assoc]
      _ = n * d.tdiv (gsgn n d) := by rw [e1]
/-- small numbers stay so -/
theorem low_small {n d : Int} (h : 0 < d) (h2 : d ≤ 1000000000) (h3 : -1000000000 ≤ n ∧ n ≤ 1000000000) : (lowRt n d).2 = true := by
  have hg : gsgn n d = (Int.gcd n d : Int) := gsgn_pos (by omega)
  have h0 : Int.gcd n d ≠ 0 := by intro h4; have := (Int.gcd_eq_zero_iff.1 h4).2; omega
  have e : goodRt ⟨n.tdiv (gsgn n d), d.tdiv (gsgn n d)⟩ = true := by
    rw [hg, goodRt_iff]
    dsimp only
    have b1 := @tdiv_bd n (Int.gcd n d)
    have b2 := @tdiv_bd d (Int.gcd n d)
    have p : 0 < d.tdiv (Int.gcd n d) := by
      have e2 := Int.tdiv_mul_cancel (Int.gcd_dvd_right n d)
      rcases Int.lt_trichotomy (d.tdiv (Int.gcd n d)) 0 with h5 | h5 | h5
      · have := Int.mul_neg_of_neg_of_pos h5 (show (0 : Int) < Int.gcd n d by omega); omega
      · rw [h5, Int.zero_mul] at e2; omega
      · exact h5
    have c : Int.gcd (n.tdiv (Int.gcd n d)) (d.tdiv (Int.gcd n d)) = 1 := by
      rw [Int.tdiv_eq_ediv_of_dvd (Int.gcd_dvd_left ..), Int.tdiv_eq_ediv_of_dvd (Int.gcd_dvd_right ..)]
      exact Int.gcd_ediv_gcd_ediv_gcd (by omega)
    omega
  rw [lowRt_t e]

/-- the rational number of a fraction -/
def qR (r : Rt) : Rat := (r.num : Rat) / (r.den : Rat)
theorem den_pos {r : Rt} (h : goodRt r = true) : (0 : Rat) < (r.den : Rat) := by
  have := (goodRt_iff.1 h).1
  exact Rat.intCast_pos.2 (by omega)
theorem qR_mul {r : Rt} (h : goodRt r = true) : qR r * (r.den : Rat) = (r.num : Rat) := by
  have := den_pos h
  unfold qR
  rw [Rat.div_mul_cancel (by grind)]
theorem cross {a b : Rt} : ((a.num * b.den : Int) : Rat) = (a.num : Rat) * (b.den : Rat) := Rat.intCast_mul ..
theorem q_lt {a b : Rt} (ha : goodRt a = true) (hb : goodRt b = true) : a.num * b.den < b.num * a.den ↔ qR a < qR b := by
  have h1 := den_pos ha
  have h2 := den_pos hb
  have e1 := qR_mul ha
  have e2 := qR_mul hb
  rw [← Rat.intCast_lt_intCast, Rat.intCast_mul, Rat.intCast_mul, ← e1, ← e2]
  have h3 := Rat.mul_pos h1 h2
  constructor
  · intro h
    by_cases h4 : qR a < qR b
    · exact h4
    · by_cases h5 : qR a = qR b
      · rw [h5] at h; grind
      · have := Rat.mul_pos (show 0 < qR a - qR b by grind) h3; grind
  · intro h
    have := Rat.mul_pos (show 0 < qR b - qR a by grind) h3; grind
end Go.Vx
