/- Continued fractions, in plain arithmetic. -/
import Derived.Test.YtalgocopemmelaaGreatDoorVpBase
namespace Go.Vx
open Go

def cfA : Nat → Int → Int → List Int
  | 0, _, _ => []
  | f + 1, n, d => if d = 0 then [] else n / d :: cfA f d (n % d)
def cf (n d : Int) : List Int := cfA (d.toNat + 1) n d

theorem cfA_more : ∀ (f g : Nat) (n d : Int), 0 ≤ d → d.toNat < f → d.toNat < g → cfA f n d = cfA g n d
  | 0, _, _, _, _, h, _ => by omega
  | _, 0, _, _, _, _, h => by omega
  | f + 1, g + 1, n, d, h0, h1, h2 => by
    simp only [cfA]
    by_cases hd : d = 0
    · rw [if_pos hd, if_pos hd]
    · have := Int.emod_nonneg n hd
      have := Int.emod_lt_of_pos n (b := d) (by omega)
      rw [if_neg hd, if_neg hd, cfA_more f g d (n % d) (by omega) (by omega) (by omega)]
theorem cf_zero (n : Int) : cf n 0 = [] := by simp [cf, cfA]
theorem cf_pos {n d : Int} (h : 0 < d) : cf n d = n / d :: cf d (n % d) := by
  have h1 := Int.emod_nonneg n (show d ≠ 0 by omega)
  have h2 := Int.emod_lt_of_pos n h
  unfold cf
  rw [cfA, if_neg (by omega), cfA_more d.toNat ((n % d).toNat + 1) d (n % d) h1 (by omega) (by omega)]
theorem cfA_length : ∀ (f : Nat) (n d : Int), (cfA f n d).length ≤ f
  | 0, _, _ => by simp [cfA]
  | f + 1, n, d => by
    simp only [cfA]
    split
    · simp
    · simp [cfA_length f]
theorem cf_length (n d : Int) : (cf n d).length ≤ d.toNat + 1 := cfA_length _ _ _

theorem floor_eq {a b : Int} (h : 0 < b) : (if a.tmod b < 0 then a.tdiv b - 1 else a.tdiv b) = a / b := by
  have h1 := Int.tmod_add_mul_tdiv a b
  have h2 := Int.tmod_lt_of_pos a h
  have h3 : -b < a.tmod b := by
    have h4 := Int.tmod_lt_of_pos (-a) h
    rw [Int.neg_tmod] at h4
    omega
  generalize a.tmod b = r at *
  generalize a.tdiv b = q at *
  split
  · symm
    apply ((Int.ediv_emod_unique h).2 ⟨?_, (show 0 ≤ r + b by omega), by omega⟩).1
    rw [Int.mul_sub]
    omega
  · symm
    apply ((Int.ediv_emod_unique h).2 ⟨?_, (show 0 ≤ r by omega), h2⟩).1
    omega
theorem floor_lt {a b : Int} (h : 0 < b) (h2 : a.tmod b < 0) : a.tdiv b - 1 = a / b := by rw [← floor_eq h, if_pos h2]
theorem floor_ge {a b : Int} (h : 0 < b) (h2 : ¬ a.tmod b < 0) : a.tdiv b = a / b := by rw [← floor_eq h, if_neg h2]
theorem ediv_mul (a b : Int) : a / b * b = a - a % b := by
  have := Int.emod_add_mul_ediv a b
  rw [Int.mul_comm]; omega
theorem ediv_bd {a b : Int} (h : 0 < b) {M : Int} (h1 : -M ≤ a) (h2 : a ≤ M) (h0 : 0 ≤ M) : -M ≤ a / b ∧ a / b ≤ M := by
  constructor
  · rw [Int.le_ediv_iff_mul_le h]
    have := Int.mul_le_mul_of_nonneg_left (show 1 ≤ b by omega) h0
    have e : -M * b = -(M * b) := Int.neg_mul M b
    omega
  · apply Int.ediv_le_of_le_mul h
    have := Int.mul_le_mul_of_nonneg_left (show 1 ≤ b by omega) h0
    omega
end Go.Vx
