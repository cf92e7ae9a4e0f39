/- The simplest fraction between two others, in plain arithmetic. -/
import Derived.Test.YtalgocopemmelaaGreatDoorVpCf
namespace Go.Vx
open Go

noncomputable def unitRt (r : Rt) : Bool := goodRt r && (decide (0 ≤ r.num) && decide (r.num ≤ r.den))
theorem unitRt_iff {r : Rt} : unitRt r = true ↔ (goodRt r = true ∧ 0 ≤ r.num ∧ r.num ≤ r.den) := by
  simp [unitRt]
def sbNum (a : Rt) (den : Int) : Int := a.num * den / a.den + 1
def sbOk (a b : Rt) (den : Int) : Bool := decide (sbNum a den * b.den < b.num * den)
def sbFind (a b : Rt) : Option Nat := (List.range 1000).find? fun i => sbOk a b ((i : Int) + 1)
theorem gsgn_one {n d : Int} (h : 0 < d) (h2 : (Int.gcd n d : Int) = 1) : gsgn n d = 1 := by
  unfold gsgn; rw [if_neg (by omega)]; exact h2
theorem lowRt_good {n d : Int} (h : goodRt ⟨n, d⟩ = true) : lowRt n d = (⟨n, d⟩, true) := by
  have h1 := goodRt_iff.1 h
  dsimp only at h1
  unfold lowRt
  rw [gsgn_one (by omega) h1.2.2.2.2, Int.tdiv_one, Int.tdiv_one, h]
theorem sbNum_gt {a : Rt} (ha : goodRt a = true) (den : Int) : a.num * den < sbNum a den * a.den := by
  have h1 := goodRt_iff.1 ha
  unfold sbNum
  have h2 := Int.emod_lt_of_pos (a.num * den) (b := a.den) (by omega)
  have h3 := ediv_mul (a.num * den) a.den
  rw [Int.add_mul]
  omega
theorem sbNum_le {a : Rt} (ha : goodRt a = true) {den n : Int} (h : a.num * den < n * a.den) : sbNum a den ≤ n := by
  have h1 := goodRt_iff.1 ha
  unfold sbNum
  have : a.num * den / a.den < n := Int.ediv_lt_of_lt_mul (by omega) h
  omega
theorem sb_good {a b : Rt} (ha : unitRt a = true) (hb : unitRt b = true) {i : Nat} (h : sbFind a b = some i) : goodRt ⟨sbNum a ((i : Int) + 1), (i : Int) + 1⟩ = true := by
  obtain ⟨ga, a0, a1⟩ := unitRt_iff.1 ha
  obtain ⟨gb, b0, b1⟩ := unitRt_iff.1 hb
  have pa := goodRt_iff.1 ga
  have pb := goodRt_iff.1 gb
  unfold sbFind at h
  rw [List.find?_eq_some_iff_getElem] at h
  obtain ⟨hok, j, hj, hji, hfirst⟩ := h
  simp at hji hj
  subst hji
  have hok : sbNum a ((j : Int) + 1) * b.den < b.num * ((j : Int) + 1) := by simpa [sbOk] using hok
  have hgt := sbNum_gt ga ((j : Int) + 1)
  generalize hn : sbNum a ((j : Int) + 1) = n at *
  have hd0 : (0 : Int) < (j : Int) + 1 := by omega
  have hn0 : 0 < n := by
    have h0 : 0 ≤ a.num * ((j : Int) + 1) := Int.mul_nonneg a0 (by omega)
    have h1 : 0 < n * a.den := by omega
    exact Int.pos_of_mul_pos_left (a := n) (b := a.den) h1 (by omega)
  have hn1 : n ≤ (j : Int) + 1 := by
    have h1 : b.num * ((j : Int) + 1) ≤ b.den * ((j : Int) + 1) := Int.mul_le_mul_of_nonneg_right b1 (by omega)
    have h2 : n * b.den < ((j : Int) + 1) * b.den := by rw [Int.mul_comm ((j : Int) + 1)]; omega
    exact Int.le_of_lt (Int.lt_of_mul_lt_mul_right h2 (by omega))
  have hg : Int.gcd n ((j : Int) + 1) = 1 := by
    rcases Nat.lt_or_ge 1 (Int.gcd n ((j : Int) + 1)) with h1 | h1
    · exfalso
      obtain ⟨n', en⟩ := Int.gcd_dvd_left n ((j : Int) + 1)
      obtain ⟨d', ed⟩ := Int.gcd_dvd_right n ((j : Int) + 1)
      generalize (Int.gcd n ((j : Int) + 1)) = g at *
      have hd' : 0 < d' := Int.pos_of_mul_pos_right (a := (g : Int)) (b := d') (by omega) (by omega)
      have hlt : d' < (j : Int) + 1 := by
        have : d' * 2 ≤ d' * (g : Int) := Int.mul_le_mul_of_nonneg_left (by omega) (by omega)
        rw [Int.mul_comm d' (g : Int)] at this
        omega
      have e1 : a.num * d' < n' * a.den := by
        have : (g : Int) * (a.num * d') < (g : Int) * (n' * a.den) := by
          have q1 : (g : Int) * (a.num * d') = a.num * ((j : Int) + 1) := by rw [ed]; simp only [Int.mul_left_comm]
          have q2 : (g : Int) * (n' * a.den) = n * a.den := by rw [en, Int.mul_assoc]
          rw [q1, q2]; exact hgt
        exact Int.lt_of_mul_lt_mul_left this (by omega)
      have e2 : n' * b.den < b.num * d' := by
        have : (g : Int) * (n' * b.den) < (g : Int) * (b.num * d') := by
          have q1 : (g : Int) * (b.num * d') = b.num * ((j : Int) + 1) := by rw [ed]; simp only [Int.mul_left_comm]
          have q2 : (g : Int) * (n' * b.den) = n * b.den := by rw [en, Int.mul_assoc]
          rw [q1, q2]; exact hok
        exact Int.lt_of_mul_lt_mul_left this (by omega)
      have e3 := sbNum_le ga e1
      have e4 : sbNum a d' * b.den ≤ n' * b.den := Int.mul_le_mul_of_nonneg_right e3 (by omega)
      have hk := hfirst (d' - 1).toNat (by omega)
      have e5 : ((((d' - 1).toNat : Nat) : Int) + 1) = d' := by omega
      rw [List.getElem_range, Bool.not_eq_true', sbOk, decide_eq_false_iff_not, e5] at hk
      omega
    · have : Int.gcd n ((j : Int) + 1) ≠ 0 := by intro h2; have := (Int.gcd_eq_zero_iff.1 h2).2; omega
      omega
  rw [goodRt_iff]
  dsimp only
  omega
end Go.Vx
