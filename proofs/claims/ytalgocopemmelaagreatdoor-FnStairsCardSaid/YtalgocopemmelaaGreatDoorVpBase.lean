/- Plain arithmetic of fractions and lists, with no program in sight. -/
import Derived.Test.YtalgocopemmelaaGreatDoorVxTypes
namespace Go.Vx
open Go

def inB (n lo hi : Int) : Bool := decide (lo ≤ n ∧ n ≤ hi)
/-- by a choice, so that no one computes it -/
noncomputable def goodRt (r : Rt) : Bool := @decide (1 ≤ r.den ∧ r.den ≤ 1000000000 ∧ -1000000000 ≤ r.num ∧ r.num ≤ 1000000000 ∧ (Int.gcd r.num r.den : Int) = 1) (Classical.propDecidable _)
def sgn (n : Int) : Int := if n < 0 then -1 else if 0 < n then 1 else 0
def cmpRt (a b : Rt) : Int := sgn (a.num * b.den - b.num * a.den)
def lessRt (a b : Rt) : Bool := decide (a.num * b.den < b.num * a.den)
def gsgn (n d : Int) : Int := if d < 0 then -(Int.gcd n d : Int) else (Int.gcd n d : Int)
noncomputable def lowRt (n d : Int) : Rt × Bool := match goodRt ⟨n.tdiv (gsgn n d), d.tdiv (gsgn n d)⟩ with
  | true => (⟨n.tdiv (gsgn n d), d.tdiv (gsgn n d)⟩, true)
  | false => (⟨0, 0⟩, false)

theorem gcd_tmod (p q : Int) : Int.gcd q (p.tmod q) = Int.gcd p q := by
  rw [Int.gcd_comm p q, Int.tmod_def, Int.gcd_sub_mul_left_right]
theorem goodRt_iff {r : Rt} : goodRt r = true ↔ (1 ≤ r.den ∧ r.den ≤ 1000000000 ∧ -1000000000 ≤ r.num ∧ r.num ≤ 1000000000 ∧ (Int.gcd r.num r.den : Int) = 1) := by
  simp [goodRt]

theorem mul_bd {a b A B : Int} (h1 : -A ≤ a) (h2 : a ≤ A) (h3 : -B ≤ b) (h4 : b ≤ B) (hA : 0 ≤ A) : -(A * B) ≤ a * b ∧ a * b ≤ A * B := by
  have hB : 0 ≤ B := by omega
  have h5 : (a.natAbs : Int) ≤ A := by omega
  have h6 : (b.natAbs : Int) ≤ B := by omega
  have h7 : ((a * b).natAbs : Int) ≤ A * B := by
    rw [Int.natAbs_mul]
    push_cast
    exact Int.mul_le_mul h5 h6 (by omega) hA
  omega

theorem ratmul {a b : Rt} (ha : goodRt a = true) (hb : goodRt b = true) : -1000000000000000000 ≤ a.num * b.den ∧ a.num * b.den ≤ 1000000000000000000 := by
  rw [goodRt_iff] at ha hb
  have := mul_bd (A := 1000000000) (B := 1000000000) (a := a.num) (b := b.den) (by omega) (by omega) (by omega) (by omega) (by omega)
  simpa using this
theorem denmul {a b : Rt} (ha : goodRt a = true) (hb : goodRt b = true) : 0 < a.den * b.den ∧ a.den * b.den ≤ 1000000000000000000 := by
  rw [goodRt_iff] at ha hb
  have := mul_bd (A := 1000000000) (B := 1000000000) (a := a.den) (b := b.den) (by omega) (by omega) (by omega) (by omega) (by omega)
  have := Int.mul_pos (a := a.den) (b := b.den) (by omega) (by omega)
  omega
theorem nummul {a b : Rt} (ha : goodRt a = true) (hb : goodRt b = true) : -1000000000000000000 ≤ a.num * b.num ∧ a.num * b.num ≤ 1000000000000000000 := by
  rw [goodRt_iff] at ha hb
  have := mul_bd (A := 1000000000) (B := 1000000000) (a := a.num) (b := b.num) (by omega) (by omega) (by omega) (by omega) (by omega)
  simpa using this
end Go.Vx
