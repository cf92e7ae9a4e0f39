/- Sums, differences, products and quotients of fractions, in lowest terms. -/
import Derived.Test.YtalgocopemmelaaGreatDoorVpSb
namespace Go.Vx
open Go

noncomputable def addRt (a b : Rt) : Rt × Bool := lowRt (a.num * b.den + b.num * a.den) (a.den * b.den)
noncomputable def subRt (a b : Rt) : Rt × Bool := lowRt (a.num * b.den - b.num * a.den) (a.den * b.den)
noncomputable def mulRt (a b : Rt) : Rt × Bool := lowRt (a.num * b.num) (a.den * b.den)
noncomputable def divRt (a b : Rt) : Rt × Bool := lowRt (a.num * b.den) (a.den * b.num)
/-- a result, or 0 -/
@[irreducible] def opR (r : Rt × Bool) : Rt := match r.2 with
  | true => r.1
  | false => ⟨0, 1⟩
/-- between the bounds, the denominator 0 too -/
def okRt (r : Rt) : Bool := decide (0 ≤ r.den ∧ r.den ≤ 1000000000 ∧ -1000000000 ≤ r.num ∧ r.num ≤ 1000000000)
theorem okRt_iff {r : Rt} : okRt r = true ↔ (0 ≤ r.den ∧ r.den ≤ 1000000000 ∧ -1000000000 ≤ r.num ∧ r.num ≤ 1000000000) := by simp [okRt]
theorem ok_good {r : Rt} (h : goodRt r = true) : okRt r = true := by
  rw [goodRt_iff] at h; rw [okRt_iff]; omega
theorem lowRt_good1 {n d : Int} (h : (lowRt n d).2 = true) : goodRt (lowRt n d).1 = true := by
  unfold lowRt at h ⊢
  split at h
  · rename_i h1; exact h1
  · cases h
theorem lowRt_bad {n d : Int} (h : (lowRt n d).2 = false) : lowRt n d = (⟨0, 0⟩, false) := by
  unfold lowRt at h ⊢
  split at h
  · cases h
  · rfl
theorem lowRt_ok {n d : Int} : okRt (lowRt n d).1 = true := by
  cases h : (lowRt n d).2
  · rw [lowRt_bad h]; exact okRt_iff.2 (by decide)
  · exact ok_good (lowRt_good1 h)
theorem good_zero : goodRt ⟨0, 1⟩ = true := goodRt_iff.2 (by decide)
theorem good_one : goodRt ⟨1, 1⟩ = true := goodRt_iff.2 (by decide)
theorem good_whole {n : Int} (h : -1000000000 ≤ n ∧ n ≤ 1000000000) : goodRt ⟨n, 1⟩ = true := by
  rw [goodRt_iff]; dsimp only; rw [Int.gcd_one]; omega
theorem opR_good {n d : Int} : goodRt (opR (lowRt n d)) = true := by
  unfold opR
  split
  · rename_i h; exact lowRt_good1 h
  · exact good_zero
theorem okmul {a b : Rt} (ha : okRt a = true) (hb : okRt b = true) : (-1000000000000000000 ≤ a.num * b.den ∧ a.num * b.den ≤ 1000000000000000000) ∧ (-1000000000000000000 ≤ b.num * a.den ∧ b.num * a.den ≤ 1000000000000000000) ∧
    (-1000000000000000000 ≤ a.num * b.num ∧ a.num * b.num ≤ 1000000000000000000) ∧ (0 ≤ a.den * b.den ∧ a.den * b.den ≤ 1000000000000000000) ∧ (-1000000000000000000 ≤ a.den * b.num ∧ a.den * b.num ≤ 1000000000000000000) := by
  rw [okRt_iff] at ha hb
  have h1 := mul_bd (A := 1000000000) (B := 1000000000) (a := a.num) (b := b.den) (by omega) (by omega) (by omega) (by omega) (by omega)
  have h2 := mul_bd (A := 1000000000) (B := 1000000000) (a := b.num) (b := a.den) (by omega) (by omega) (by omega) (by omega) (by omega)
  have h3 := mul_bd (A := 1000000000) (B := 1000000000) (a := a.num) (b := b.num) (by omega) (by omega) (by omega) (by omega) (by omega)
  have h4 := mul_bd (A := 1000000000) (B := 1000000000) (a := a.den) (b := b.den) (by omega) (by omega) (by omega) (by omega) (by omega)
  have h5 := mul_bd (A := 1000000000) (B := 1000000000) (a := a.den) (b := b.num) (by omega) (by omega) (by omega) (by omega) (by omega)
  have h6 := Int.mul_nonneg (a := a.den) (b := b.den) (by omega) (by omega)
  refine ⟨?_, ?_, ?_, ?_, ?_⟩ <;> first | (constructor <;> omega)
theorem good_neg {b : Rt} (h : okRt b = true) : goodRt ⟨0 - b.num, b.den⟩ = goodRt b := by
  have e : Int.gcd (0 - b.num) b.den = Int.gcd b.num b.den := by simp [Int.gcd]
  rw [Bool.eq_iff_iff, goodRt_iff, goodRt_iff]
  dsimp only
  rw [e]
  omega
theorem add_neg {a b : Rt} : addRt a ⟨0 - b.num, b.den⟩ = subRt a b := by
  unfold addRt subRt
  dsimp only
  congr 1
  rw [Int.sub_mul]
  omega

/-- the numbers of a continued fraction put together, from the last one on -/
noncomputable def fcR : List Int → Rt × Bool
  | [] => (⟨0, 0⟩, false)
  | [a] => (⟨a, 1⟩, true)
  | a :: r => match fcR r with
    | (o, true) => match divRt ⟨1, 1⟩ o with
      | (b, true) => addRt ⟨a, 1⟩ b
      | (_, false) => (⟨0, 0⟩, false)
    | (_, false) => (⟨0, 0⟩, false)
theorem fcR_cons {a : Int} {r : List Int} (h : r ≠ []) : fcR (a :: r) = match fcR r with
    | (o, true) => match divRt ⟨1, 1⟩ o with
      | (b, true) => addRt ⟨a, 1⟩ b
      | (_, false) => (⟨0, 0⟩, false)
    | (_, false) => (⟨0, 0⟩, false) := by
  cases r with
  | nil => exact (h rfl).elim
  | cons b r => rfl
theorem fcR_bad : ∀ {l : List Int}, (fcR l).2 = false → fcR l = (⟨0, 0⟩, false)
  | [], _ => rfl
  | [a], h => by cases h
  | a :: b :: r, h => by
    rw [fcR_cons (by simp)] at h ⊢
    split at h
    · split at h
      · exact lowRt_bad h
      · rfl
    · rfl
theorem fcR_cons_bad {a : Int} {r : List Int} (h : r ≠ []) (h2 : (fcR r).2 = false) : (fcR (a :: r)).2 = false := by
  rw [fcR_cons h, fcR_bad h2]
theorem fcR_div {a : Int} {r : List Int} {o : Rt} (h : r ≠ []) (h1 : fcR r = (o, true)) (h2 : (divRt ⟨1, 1⟩ o).2 = false) : (fcR (a :: r)).2 = false := by
  rw [fcR_cons h, h1]
  have : divRt ⟨1, 1⟩ o = (⟨0, 0⟩, false) := lowRt_bad h2
  dsimp only
  rw [this]
theorem fcR_add {a : Int} {r : List Int} {o : Rt} (h : r ≠ []) (h1 : fcR r = (o, true)) (h2 : (divRt ⟨1, 1⟩ o).2 = true) : fcR (a :: r) = addRt ⟨a, 1⟩ (divRt ⟨1, 1⟩ o).1 := by
  rw [fcR_cons h, h1]
  have : divRt ⟨1, 1⟩ o = ((divRt ⟨1, 1⟩ o).1, true) := Prod.ext rfl h2
  dsimp only
  rw [this]
theorem fcR_drop_bad {l : List Int} : ∀ {m j : Nat}, j ≤ m → m < l.length → (fcR (l.drop m)).2 = false → (fcR (l.drop j)).2 = false
  | 0, j, h, _, hb => by have : j = 0 := by omega
                         subst this; exact hb
  | m + 1, j, h, hm, hb => by
    rcases Nat.lt_or_eq_of_le h with h1 | rfl
    · refine fcR_drop_bad (m := m) (j := j) (by omega) (by omega) ?_
      rw [List.drop_eq_getElem_cons (by omega : m < l.length)]
      exact fcR_cons_bad (by intro h2; have := congrArg List.length h2; simp at this; omega) hb
    · exact hb
theorem opR_t {r : Rt × Bool} (h : r.2 = true) : opR r = r.1 := by unfold opR; rw [h]
theorem pair_t {r : Rt × Bool} (h : r.2 = true) : r = (r.1, true) := Prod.ext rfl h
end Go.Vx
