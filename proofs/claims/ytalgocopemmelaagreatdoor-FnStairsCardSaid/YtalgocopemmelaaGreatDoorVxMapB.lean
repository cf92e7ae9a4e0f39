/- Maps: slopes, pieces and values. -/
import Derived.Test.YtalgocopemmelaaGreatDoorVxMapA
namespace Go.Vx
open Go Go.Proofs
set_option maxRecDepth 100000
set_option linter.unusedSimpArgs false
set_option linter.unusedVariables false

theorem idx_lo {α : Type} {p : α → Bool} {l : List α} : -9223372036854775808 ≤ idxF p l - 1 := by have := idxF_rng p l; omega
theorem idx_hi {α : Type} {p : α → Bool} {l : List α} (hl : l.length ≤ 9223372036854775807) : idxF p l - 1 ≤ 9223372036854775807 := by have := idxF_rng p l; omega
theorem if_toNat (a : Int) : (if a < 0 then 0 else a) = (a.toNat : Int) := by split <;> omega
theorem bE {P Q : Bool} (h : (bif P then Q else false) = true) : P = true ∧ Q = true := by revert h; cases P <;> cases Q <;> decide
theorem bF {P Q : Bool} (h : (bif P then Q else false) = false) (h2 : P = true) : Q = false := by revert h h2; cases P <;> cases Q <;> decide
theorem succ_nat (i : Nat) : ((i : Int) + 1).toNat = i + 1 := by omega
theorem cmp_lt' {a b : Rt} (h : decide (cmpRt a b < 0) = true) : ltR a b := cmpRt_neg.1 (of_decide_eq_true h)
theorem cmp_ge' {a b : Rt} (h : decide (cmpRt a b < 0) = false) : ¬ ltR a b := fun h2 => of_decide_eq_false h (cmpRt_neg.2 h2)
theorem mulRt_comm (a b : Rt) : mulRt a b = mulRt b a := by unfold mulRt; rw [Int.mul_comm a.num, Int.mul_comm a.den]
theorem on_bad {p : Pt} {s x : Rt} (h1 : (subRt x p.x).2 = true) (h : (mulRt (subRt x p.x).1 s).2 = false) : (⟨0, 0⟩, false) = lineR p s x := by
  rw [mulRt_comm] at h
  rw [lineR_2 h1 h]
theorem on_ok {p : Pt} {s x : Rt} (h1 : (subRt x p.x).2 = true) (h : (mulRt (subRt x p.x).1 s).2 = true) : addRt p.y (mulRt (subRt x p.x).1 s).1 = lineR p s x := by
  rw [mulRt_comm] at h ⊢
  rw [lineR_3 h1 h]
end Go.Vx
