/- Fractions from 0 to 1: the program's functions and the reference's. -/
import Derived.Test.YtjiafbjoijffjaaGreatPk11
namespace Go.Vx
open Go

noncomputable def unitRt (r : Rt) : Bool := goodRt r && (decide (0 ≤ r.num) && decide (r.num ≤ r.den))
theorem unitRt_iff {r : Rt} : unitRt r = true ↔ (goodRt r = true ∧ 0 ≤ r.num ∧ r.num ≤ r.den) := by
  simp [unitRt]
def sbNum (a : Rt) (den : Int) : Int := a.num * den / a.den + 1
def sbOk (a b : Rt) (den : Int) : Bool := decide (sbNum a den * b.den < b.num * den)
def sbFind (a b : Rt) : Option Nat := (List.range 1000).find? fun i => sbOk a b ((i : Int) + 1)
theorem gsgn_one {n d : Int} (h : 0 < d) (h2 : (Int.gcd n d : Int) = 1) : gsgn n d = 1 := by
  unfold gsgn; rw [if_neg (by omega)]; exact h2
theorem lowRt_good {n d : Int} (h : goodRt ⟨n, d⟩ = true) : lowRt n d = (⟨n, d⟩, true) := by
  have h1 := goodRt_iff.1 h
  dsimp only at h1
  unfold lowRt
  rw [gsgn_one (by omega) h1.2.2.2.2, Int.tdiv_one, Int.tdiv_one, h]
theorem sbNum_gt {a : Rt} (ha : goodRt a = true) (den : Int) : a.num * den < sbNum a den * a.den := by
  have h1 := goodRt_iff.1 ha
  unfold sbNum
  have h2 := Int.emod_lt_of_pos (a.num * den) (b := a.den) (by omega)
  have h3 := ediv_mul (a.num * den) a.den
  rw [Int.add_mul]
  omega
theorem sbNum_le {a : Rt} (ha : goodRt a = true) {den n : Int} (h : a.num * den < n * a.den) : sbNum a den ≤ n := by
  have h1 := goodRt_iff.1 ha
  unfold sbNum
  have : a.num * den / a.den < n := Int.ediv_lt_of_lt_mul (by omega) h
  omega
theorem sb_good {a b : Rt} (ha : unitRt a = true) (hb : unitRt b = true) {i : Nat} (h : sbFind a b = some i) : goodRt ⟨sbNum a ((i : Int) + 1), (i : Int) + 1⟩ = true := by
  obtain ⟨ga, a0, a1⟩ := unitRt_iff.1 ha
  obtain ⟨gb, b0, b1⟩ := unitRt_iff.1 hb
  have pa := goodRt_iff.1 ga
  have pb := goodRt_iff.1 gb
  unfold sbFind at h
  rw [List.find?_eq_some_iff_getElem] at h
  obtain ⟨hok, j, hj, hji, hfirst⟩ := h
  simp at hji hj
  subst hji
  have hok : sbNum a ((j : Int) + 1) * b.den < b.num * ((j : Int) + 1) := by simpa [sbOk] using hok
  have hgt := sbNum_gt ga ((j : Int) + 1)
  generalize hn : sbNum a ((j : Int) + 1) = n at *
  have hd0 : (0 : Int) < (j : Int) + 1 := by omega
  have hn0 : 0 < n := by
    have h0 : 0 ≤ a.num * ((j : Int) + 1) := Int.mul_nonneg a0 (by omega)
    have h1 : 0 < n * a.den := by omega
    exact Int.pos_of_mul_pos_left (a := n) (b := a.den) h1 (by omega)
  have hn1 : n ≤ (j : Int) + 1 := by
    have h1 : b.num * ((j : Int) + 1) ≤ b.den * ((j : Int) + 1) := Int.mul_le_mul_of_nonneg_right b1 (by omega)
    have h2 : n * b.den < ((j : Int) + 1) * b.den := by rw [Int.mul_comm ((j : Int) + 1)]; omega
    exact Int.le_of_lt (Int.lt_of_mul_lt_mul_right h2 (by omega))
  have hg : Int.gcd n ((j : Int) + 1) = 1 := by
    rcases Nat.lt_or_ge 1 (Int.gcd n ((j : Int) + 1)) with h1 | h1
    · exfalso
      obtain ⟨n', en⟩ := Int.gcd_dvd_left n ((j : Int) + 1)
      obtain ⟨d', ed⟩ := Int.gcd_dvd_right n ((j : Int) + 1)
      generalize (Int.gcd n ((j : Int) + 1)) = g at *
      have hd' : 0 < d' := Int.pos_of_mul_pos_right (a := (g : Int)) (b := d') (by omega) (by omega)
      have hlt : d' < (j : Int) + 1 := by
        have : d' * 2 ≤ d' * (g : Int) := Int.mul_le_mul_of_nonneg_left (by omega) (by omega)
        rw [Int.mul_comm d' (g : Int)] at this
        omega
      have e1 : a.num * d' < n' * a.den := by
        have : (g : Int) * (a.num * d') < (g : Int) * (n' * a.den) := by
          have q1 : (g : Int) * (a.num * d') = a.num * ((j : Int) + 1) := by rw [ed]; simp only [Int.mul_left_comm]
          have q2 : (g : Int) * (n' * a.den) = n * a.den := by rw [en, Int.mul_assoc]
          rw [q1, q2]; exact hgt
        exact Int.lt_of_mul_lt_mul_left this (by omega)
      have e2 : n' * b.den < b.num * d' := by
        have : (g : Int) * (n' * b.den) < (g : Int) * (b.num * d') := by
          have q1 : (g : Int) * (b.num * d') = b.num * ((j : Int) + 1) := by rw [ed]; simp only [Int.mul_left_comm]
          have q2 : (g : Int) * (n' * b.den) = n * b.den := by rw [en, Int.mul_assoc]
          rw [q1, q2]; exact hok
        exact Int.lt_of_mul_lt_mul_left this (by omega)
      have e3 := sbNum_le ga e1
      have e4 : sbNum a d' * b.den ≤ n' * b.den := Int.mul_le_mul_of_nonneg_right e3 (by omega)
      have hk := hfirst (d' - 1).toNat (by omega)
      have e5 : ((((d' - 1).toNat : Nat) : Int) + 1) = d' := by omega
      rw [List.getElem_range, Bool.not_eq_true', sbOk, decide_eq_false_iff_not, e5] at hk
      omega
    · have : Int.gcd n ((j : Int) + 1) ≠ 0 := by intro h2; have := (Int.gcd_eq_zero_iff.1 h2).2; omega
      omega
  rw [goodRt_iff]
  dsimp only
  omega
end Go.Vx
namespace Go.Vx
open Go

noncomputable def addRt (a b : Rt) : Rt × Bool := lowRt (a.num * b.den + b.num * a.den) (a.den * b.den)
noncomputable def subRt (a b : Rt) : Rt × Bool := lowRt (a.num * b.den - b.num * a.den) (a.den * b.den)
noncomputable def mulRt (a b : Rt) : Rt × Bool := lowRt (a.num * b.num) (a.den * b.den)
noncomputable def divRt (a b : Rt) : Rt × Bool := lowRt (a.num * b.den) (a.den * b.num)
/-- a result, or 0 -/
@[irreducible] def opR (r : Rt × Bool) : Rt := match r.2 with
  | true => r.1
  | false => ⟨0, 1⟩
/-- between the bounds, the denominator 0 too -/
def okRt (r : Rt) : Bool := decide (0 ≤ r.den ∧ r.den ≤ 1000000000 ∧ -1000000000 ≤ r.num ∧ r.num ≤ 1000000000)
theorem okRt_iff {r : Rt} : okRt r = true ↔ (0 ≤ r.den ∧ r.den ≤ 1000000000 ∧ -1000000000 ≤ r.num ∧ r.num ≤ 1000000000) := by simp [okRt]
theorem ok_good {r : Rt} (h : goodRt r = true) : okRt r = true := by
  rw [goodRt_iff] at h; rw [okRt_iff]; omega
theorem lowRt_good1 {n d : Int} (h : (lowRt n d).2 = true) : goodRt (lowRt n d).1 = true := by
  unfold lowRt at h ⊢
  split at h
  · rename_i h1; exact h1
  · cases h
theorem lowRt_bad {n d : Int} (h : (lowRt n d).2 = false) : lowRt n d = (⟨0, 0⟩, false) := by
  unfold lowRt at h ⊢
  split at h
  · cases h
  · rfl
theorem lowRt_ok {n d : Int} : okRt (lowRt n d).1 = true := by
  cases h : (lowRt n d).2
  · rw [lowRt_bad h]; exact okRt_iff.2 (by decide)
  · exact ok_good (lowRt_good1 h)
theorem good_zero : goodRt ⟨0, 1⟩ = true := goodRt_iff.2 (by decide)
theorem good_one : goodRt ⟨1, 1⟩ = true := goodRt_iff.2 (by decide)
theorem good_whole {n : Int} (h : -1000000000 ≤ n ∧ n ≤ 1000000000) : goodRt ⟨n, 1⟩ = true := by
  rw [goodRt_iff]; dsimp only; rw [Int.gcd_one]; omega
theorem opR_good {n d : Int} : goodRt (opR (lowRt n d)) = true := by
  unfold opR
  split
  · rename_i h; exact lowRt_good1 h
  · exact good_zero
theorem okmul {a b : Rt} (ha : okRt a = true) (hb : okRt b = true) : (-1000000000000000000 ≤ a.num * b.den ∧ a.num * b.den ≤ 1000000000000000000) ∧ (-1000000000000000000 ≤ b.num * a.den ∧ b.num * a.den ≤ 1000000000000000000) ∧
    (-1000000000000000000 ≤ a.num * b.num ∧ a.num * b.num ≤ 1000000000000000000) ∧ (0 ≤ a.den * b.den ∧ a.den * b.den ≤ 1000000000000000000) ∧ (-1000000000000000000 ≤ a.den * b.num ∧ a.den * b.num ≤ 1000000000000000000) := by
  rw [okRt_iff] at ha hb
  have h1 := mul_bd (A := 1000000000) (B := 1000000000) (a := a.num) (b := b.den) (by omega) (by omega) (by omega) (by omega) (by omega)
  have h2 := mul_bd (A := 1000000000) (B := 1000000000) (a := b.num) (b := a.den) (by omega) (by omega) (by omega) (by omega) (by omega)
  have h3 := mul_bd (A := 1000000000) (B := 1000000000) (a := a.num) (b := b.num) (by omega) (by omega) (by omega) (by omega) (by omega)
  have h4 := mul_bd (A := 1000000000) (B := 1000000000) (a := a.den) (b := b.den) (by omega) (by omega) (by omega) (by omega) (by omega)
  have h5 := mul_bd (A := 1000000000) (B := 1000000000) (a := a.den) (b := b.num) (by omega) (by omega) (by omega) (by omega) (by omega)
  have h6 := Int.mul_nonneg (a := a.den) (b := b.den) (by omega) (by omega)
  refine ⟨?_, ?_, ?_, ?_, ?_⟩ <;> first | (constructor <;> omega)
theorem good_neg {b : Rt} (h : okRt b = true) : goodRt ⟨0 - b.num, b.den⟩ = goodRt b := by
  have e : Int.gcd (0 - b.num) b.den = Int.gcd b.num b.den := by simp [Int.gcd]
  rw [Bool.eq_iff_iff, goodRt_iff, goodRt_iff]
  dsimp only
  rw [e]
  omega
theorem add_neg {a b : Rt} : addRt a ⟨0 - b.num, b.den⟩ = subRt a b := by
  unfold addRt subRt
  dsimp only
  congr 1
  rw [Int.sub_mul]
  omega

/-- the numbers of a continued fraction put together, from the last one on -/
noncomputable def fcR : List Int → Rt × Bool
  | [] => (⟨0, 0⟩, false)
  | [a] => (⟨a, 1⟩, true)
  | a :: r => match fcR r with
    | (o, true) => match divRt ⟨1, 1⟩ o with
      | (b, true) => addRt ⟨a, 1⟩ b
      | (_, false) => (⟨0, 0⟩, false)
    | (_, false) => (⟨0, 0⟩, false)
theorem fcR_cons {a : Int} {r : List Int} (h : r ≠ []) : fcR (a :: r) = match fcR r with
    | (o, true) => match divRt ⟨1, 1⟩ o with
      | (b, true) => addRt ⟨a, 1⟩ b
      | (_, false) => (⟨0, 0⟩, false)
    | (_, false) => (⟨0, 0⟩, false) := by
  cases r with
  | nil => exact (h rfl).elim
  | cons b r => rfl
theorem fcR_bad : ∀ {l : List Int}, (fcR l).2 = false → fcR l = (⟨0, 0⟩, false)
  | [], _ => rfl
  | [a], h => by cases h
  | a :: b :: r, h => by
    rw [fcR_cons (by simp)] at h ⊢
    split at h
    · split at h
      · exact lowRt_bad h
      · rfl
    · rfl
theorem fcR_cons_bad {a : Int} {r : List Int} (h : r ≠ []) (h2 : (fcR r).2 = false) : (fcR (a :: r)).2 = false := by
  rw [fcR_cons h, fcR_bad h2]
theorem fcR_div {a : Int} {r : List Int} {o : Rt} (h : r ≠ []) (h1 : fcR r = (o, true)) (h2 : (divRt ⟨1, 1⟩ o).2 = false) : (fcR (a :: r)).2 = false := by
  rw [fcR_cons h, h1]
  have : divRt ⟨1, 1⟩ o = (⟨0, 0⟩, false) := lowRt_bad h2
  dsimp only
  rw [this]
theorem fcR_add {a : Int} {r : List Int} {o : Rt} (h : r ≠ []) (h1 : fcR r = (o, true)) (h2 : (divRt ⟨1, 1⟩ o).2 = true) : fcR (a :: r) = addRt ⟨a, 1⟩ (divRt ⟨1, 1⟩ o).1 := by
  rw [fcR_cons h, h1]
  have : divRt ⟨1, 1⟩ o = ((divRt ⟨1, 1⟩ o).1, true) := Prod.ext rfl h2
  dsimp only
  rw [this]
theorem fcR_drop_bad {l : List Int} : ∀ {m j : Nat}, j ≤ m → m < l.length → (fcR (l.drop m)).2 = false → (fcR (l.drop j)).2 = false
  | 0, j, h, _, hb => by have : j = 0 := by omega
                         subst this; exact hb
  | m + 1, j, h, hm, hb => by
    rcases Nat.lt_or_eq_of_le h with h1 | rfl
    · refine fcR_drop_bad (m := m) (j := j) (by omega) (by omega) ?_
      rw [List.drop_eq_getElem_cons (by omega : m < l.length)]
      exact fcR_cons_bad (by intro h2; have := congrArg List.length h2; simp at this; omega) hb
    · exact hb
theorem opR_t {r : Rt × Bool} (h : r.2 = true) : opR r = r.1 := by unfold opR; rw [h]
theorem pair_t {r : Rt × Bool} (h : r.2 = true) : r = (r.1, true) := Prod.ext rfl h
end Go.Vx
namespace Go.Vx
open Go
set_option maxRecDepth 100000
set_option linter.unusedSimpArgs false
set_option linter.unusedVariables false

theorem dvd_cop {a b c : Int} (h : Int.gcd b a = 1) (h2 : a ∣ b * c) : a ∣ c := by
  apply Int.natAbs_dvd_natAbs.1
  apply Nat.Coprime.dvd_of_dvd_mul_left (k := a.natAbs) (m := b.natAbs) (n := c.natAbs)
  · have : Nat.gcd b.natAbs a.natAbs = 1 := h
    rw [Nat.Coprime, Nat.gcd_comm]; exact this
  · rw [← Int.natAbs_mul]; exact Int.natAbs_dvd_natAbs.2 h2
theorem good_eq {a b : Rt} (ha : goodRt a = true) (hb : goodRt b = true) (h : a.num * b.den = b.num * a.den) : a = b := by
  rw [goodRt_iff] at ha hb
  obtain ⟨a1, a2, a3, a4, a5⟩ := ha
  obtain ⟨b1, b2, b3, b4, b5⟩ := hb
  have d1 : a.den ∣ b.den := by
    have : a.den ∣ a.num * b.den := by rw [h]; exact Int.dvd_mul_left _ _
    exact dvd_cop (by omega) this
  have d2 : b.den ∣ a.den := by
    have : b.den ∣ b.num * a.den := by rw [← h]; exact Int.dvd_mul_left _ _
    exact dvd_cop (by omega) this
  have e1 : a.den = b.den := Int.le_antisymm (Int.le_of_dvd (by omega) d1) (Int.le_of_dvd (by omega) d2)
  have e2 : a.num = b.num := by
    rw [e1] at h
    exact Int.eq_of_mul_eq_mul_right (by omega) h
  cases a; cases b; simp_all
theorem gsgn_dvd {n d : Int} : gsgn n d ∣ n ∧ gsgn n d ∣ d := by
  unfold gsgn
  split
  · exact ⟨Int.neg_dvd.2 (Int.gcd_dvd_left ..), Int.neg_dvd.2 (Int.gcd_dvd_right ..)⟩
  · exact ⟨Int.gcd_dvd_left .., Int.gcd_dvd_right ..⟩
theorem low_val {n d : Int} (h : (lowRt n d).2 = true) : (lowRt n d).1.num * d = n * (lowRt n d).1.den := by
  obtain ⟨h1, h2⟩ := @gsgn_dvd n d
  cases hg : goodRt ⟨n.tdiv (gsgn n d), d.tdiv (gsgn n d)⟩ with
  | false => rw [lowRt_f hg] at h; cases h
  | true =>
    rw [lowRt_t hg]
    dsimp only
    have e1 := Int.tdiv_mul_cancel h1
    have e2 := Int.tdiv_mul_cancel h2
    calc n.tdiv (gsgn n d) * d = n.tdiv (gsgn n d) * (d.tdiv (gsgn n d) * gsgn n d) := by rw [e2]
      _ = (n.tdiv (gsgn n d) * gsgn n d) * d.tdiv (gsgn n d) := by rw [Int.mul_comm (d.tdiv _), Int.mul_assoc]
      _ = n * d.tdiv (gsgn n d) := by rw [e1]
/-- small numbers stay so -/
theorem low_small {n d : Int} (h : 0 < d) (h2 : d ≤ 1000000000) (h3 : -1000000000 ≤ n ∧ n ≤ 1000000000) : (lowRt n d).2 = true := by
  have hg : gsgn n d = (Int.gcd n d : Int) := gsgn_pos (by omega)
  have h0 : Int.gcd n d ≠ 0 := by intro h4; have := (Int.gcd_eq_zero_iff.1 h4).2; omega
  have e : goodRt ⟨n.tdiv (gsgn n d), d.tdiv (gsgn n d)⟩ = true := by
    rw [hg, goodRt_iff]
    dsimp only
    have b1 := @tdiv_bd n (Int.gcd n d)
    have b2 := @tdiv_bd d (Int.gcd n d)
    have p : 0 < d.tdiv (Int.gcd n d) := by
      have e2 := Int.tdiv_mul_cancel (Int.gcd_dvd_right n d)
      rcases Int.lt_trichotomy (d.tdiv (Int.gcd n d)) 0 with h5 | h5 | h5
      · have := Int.mul_neg_of_neg_of_pos h5 (show (0 : Int) < Int.gcd n d by omega); omega
      · rw [h5, Int.zero_mul] at e2; omega
      · exact h5
    have c : Int.gcd (n.tdiv (Int.gcd n d)) (d.tdiv (Int.gcd n d)) = 1 := by
      rw [Int.tdiv_eq_ediv_of_dvd (Int.gcd_dvd_left ..), Int.tdiv_eq_ediv_of_dvd (Int.gcd_dvd_right ..)]
      exact Int.gcd_ediv_gcd_ediv_gcd (by omega)
    omega
  rw [lowRt_t e]

/-- the rational number of a fraction -/
def qR (r : Rt) : Rat := (r.num : Rat) / (r.den : Rat)
theorem den_pos {r : Rt} (h : goodRt r = true) : (0 : Rat) < (r.den : Rat) := by
  have := (goodRt_iff.1 h).1
  exact Rat.intCast_pos.2 (by omega)
theorem qR_mul {r : Rt} (h : goodRt r = true) : qR r * (r.den : Rat) = (r.num : Rat) := by
  have := den_pos h
  unfold qR
  rw [Rat.div_mul_cancel (by grind)]
theorem cross {a b : Rt} : ((a.num * b.den : Int) : Rat) = (a.num : Rat) * (b.den : Rat) := Rat.intCast_mul ..
theorem q_lt {a b : Rt} (ha : goodRt a = true) (hb : goodRt b = true) : a.num * b.den < b.num * a.den ↔ qR a < qR b := by
  have h1 := den_pos ha
  have h2 := den_pos hb
  have e1 := qR_mul ha
  have e2 := qR_mul hb
  rw [← Rat.intCast_lt_intCast, Rat.intCast_mul, Rat.intCast_mul, ← e1, ← e2]
  have h3 := Rat.mul_pos h1 h2
  constructor
  · intro h
    by_cases h4 : qR a < qR b
    · exact h4
    · by_cases h5 : qR a = qR b
      · rw [h5] at h; grind
      · have := Rat.mul_pos (show 0 < qR a - qR b by grind) h3; grind
  · intro h
    have := Rat.mul_pos (show 0 < qR b - qR a by grind) h3; grind
end Go.Vx
namespace Go.Vx
open Go Go.Proofs
set_option maxRecDepth 100000
set_option linter.unusedSimpArgs false
set_option linter.unusedVariables false

def mkI (k : Int) (n : Nat) : List Int := (List.range n).map fun (i : Nat) => k + (i : Int)
def mkR (k : Int) (n : Nat) : List Rt := (List.range n).map fun (i : Nat) => ⟨k + 2 * (i : Int), k + 2 * (i : Int) + 1⟩

theorem mkI_length (k : Int) (n : Nat) : (mkI k n).length = n := by simp [mkI]
theorem mkR_length (k : Int) (n : Nat) : (mkR k n).length = n := by simp [mkR]
theorem getA_lt {α : Type} (d : α) (l : List α) (i : Nat) (h : i < l.length) : getA d l i = l[i] := by
  rw [getA_eq]; simp [List.getD, h]
theorem take_eq_succ {α : Type} (d : α) (a b : List α) (i : Nat) (ha : i < a.length) (hb : i < b.length) (h : a.take i = b.take i) (hx : getA d a i = getA d b i) : a.take (i + 1) = b.take (i + 1) := by
  rw [getA_lt d a i ha, getA_lt d b i hb] at hx
  rw [List.take_add_one, List.take_add_one, h, List.getElem?_eq_getElem ha, List.getElem?_eq_getElem hb, hx]
theorem eq_of_take {α : Type} {a b : List α} {i : Nat} (hl : a.length = b.length) (hi : ¬ i < a.length) (h : a.take i = b.take i) : a = b := by
  rwa [List.take_of_length_le (by omega), List.take_of_length_le (by omega)] at h
theorem set_mark {α : Type} (f : Nat → α) (l : List α) (i : Nat) (x : α) (hi : i < l.length) (hx : x = f i) :
    (((List.range i).map f ++ l.drop i).set i x) = (List.range (i + 1)).map f ++ l.drop (i + 1) := by
  subst hx
  rw [List.set_append_right _ _ (by simp)]
  simp only [List.length_map, List.length_range, Nat.sub_self]
  rw [List.drop_eq_getElem_cons hi, List.set_cons_zero, List.range_succ, List.map_append, List.append_assoc]
  rfl
theorem getA_mark {α : Type} (d : α) (f : Nat → α) (l : List α) (i : Nat) (hi : i < l.length) : getA d ((List.range i).map f ++ l.drop i) i = getA d l i := by
  rw [getA_eq, getA_eq, List.getD, List.getD, List.getElem?_append_right (by simp)]
  simp
theorem mark_length {α : Type} (f : Nat → α) (l : List α) (i : Nat) (hi : i ≤ l.length) : ((List.range i).map f ++ l.drop i).length = l.length := by simp; omega
theorem mark_end {α : Type} (f : Nat → α) (l : List α) (i : Nat) (hi : ¬ i < l.length) (hi' : i ≤ l.length) : (List.range i).map f ++ l.drop i = (List.range l.length).map f := by
  have : i = l.length := by omega
  subst this; simp
theorem take_range_succ {α : Type} (d : α) (f : Nat → α) (l : List α) (i : Nat) (hi : i < l.length) (h : l.take i = (List.range i).map f) (hx : getA d l i = f i) : l.take (i + 1) = (List.range (i + 1)).map f := by
  rw [getA_lt d l i hi] at hx
  rw [List.take_add_one, h, List.getElem?_eq_getElem hi, hx, List.range_succ, List.map_append]; rfl
theorem ne_range {α : Type} (d : α) (f : Nat → α) (l : List α) (i : Nat) (hi : i < l.length) (hx : getA d l i ≠ f i) : l ≠ (List.range l.length).map f := by
  intro h
  apply hx
  rw [getA_lt d l i hi]
  rw [List.getElem_of_eq h hi]; simp

noncomputable def s_laws_eqRat : Sig := ⟨181, [.val .rat, .val .rat], [.val .bool], fun ((a : Rt), (b : Rt), _) => ⟨[], (decide (a = b), ()), ()⟩⟩

theorem ok_laws_eqRat : GSpec Tryz.prog s_laws_eqRat := by
  refine fn_known tab_ok fol Known.nil (by decide) Tryz.func181 ?_
  rintro ⟨⟨(n : Int), (d : Int)⟩, ⟨(m : Int), (e : Int)⟩, ⟨⟩⟩ hl _
  repeat' (first | with_reducible apply andAll_cons | with_reducible apply andAll_nil | (with_reducible apply Cf.mk; kernel_rfl) | apply And.intro | intro _ | exact True.intro | apply Lf.mk)
  all_goals (try simp only [Bool.not_eq_true', Bool.not_eq_false', Bool.not_not, decide_eq_true_eq, decide_eq_false_iff_not, beq_iff_eq, bne_iff_ne, beq_eq_false_iff_ne, bne_eq_false_iff_eq, ne_eq, Bool.and_eq_true, Bool.and_eq_false_iff, Bool.or_eq_true, Bool.or_eq_false_iff, Int.toNat_natCast, Nat.zero_add, Int.ofNat_lt, Int.ofNat_le, List.length_cons, List.length_nil, List.drop_zero, List.take_length] at *)
  all_goals (try change @Eq Bool _ _)
  all_goals simp_all









noncomputable def s_laws_toRat : Sig := ⟨99, [.val .rat], [.val .rat], fun ((a : Rt), _) => ⟨[], (a, ()), ()⟩⟩
theorem ok_laws_toRat : GSpec Tryz.prog s_laws_toRat := by
  refine fn_known tab_ok fol Known.nil (by decide) Tryz.func99 ?_
  rintro ⟨⟨(n : Int), (d : Int)⟩, ⟨⟩⟩ hl _
  repeat' (first | with_reducible apply andAll_cons | with_reducible apply andAll_nil | (with_reducible apply Cf.mk; kernel_rfl) | apply And.intro | intro _ | exact True.intro | apply Lf.mk)
  all_goals rfl
end Go.Vx
namespace Go.Vx
open Go Go.Proofs
set_option maxRecDepth 100000
set_option linter.unusedSimpArgs false
set_option linter.unusedVariables false

def idxF {α : Type} (p : α → Bool) (l : List α) : Int := match l.findIdx? p with
  | some i => (i : Int)
  | none => -1
theorem take_all_false {α : Type} {p : α → Bool} (d : α) {l : List α} {i : Nat} (h : i < l.length) (h1 : (l.take i).any p = false) (h2 : p (getA d l i) = false) : (l.take (i + 1)).any p = false := by
  rw [getA_eq] at h2
  rw [List.take_add_one, List.any_append, h1]
  simp [List.getD, h] at h2
  simp [h, h2]
theorem idxF_hit {α : Type} {p : α → Bool} (d : α) {l : List α} {i : Nat} (h : i < l.length) (h1 : (l.take i).any p = false) (h2 : p (getA d l i) = true) : idxF p l = i := by
  have : l.findIdx? p = some i := by
    rw [List.findIdx?_eq_some_iff_getElem]
    refine ⟨h, ?_, fun j hj => ?_⟩
    · rw [getA_eq] at h2; simpa [List.getD, h] using h2
    · have := (List.any_eq_false.1 h1) l[j] (by
        rw [List.mem_take_iff_getElem]; exact ⟨j, by omega, rfl⟩)
      simpa using this
  unfold idxF; rw [this]
theorem idxF_none {α : Type} {p : α → Bool} {l : List α} (h1 : l.any p = false) : idxF p l = -1 := by
  have : l.findIdx? p = none := by
    rw [List.findIdx?_eq_none_iff]
    intro x hx
    have := (List.any_eq_false.1 h1) x hx
    simpa using this
  unfold idxF; rw [this]
theorem idxF_any {α : Type} {p : α → Bool} {l : List α} : decide (0 ≤ idxF p l) = l.any p := by
  cases h : l.any p
  · rw [idxF_none h]; rfl
  · have : l.findIdx? p ≠ none := by
      rw [ne_eq, List.findIdx?_eq_none_iff]
      intro h2
      obtain ⟨x, hx, hp⟩ := List.any_eq_true.1 h
      rw [h2 x hx] at hp; cases hp
    unfold idxF
    cases hf : l.findIdx? p with
    | none => exact (this hf).elim
    | some i => simp
theorem getA_mem {α : Type} (d : α) {l : List α} {i : Nat} (h : i < l.length) : getA d l i ∈ l := by
  rw [getA_eq]; simp [List.getD, h]
theorem idxF_rng {α : Type} (p : α → Bool) (l : List α) : -1 ≤ idxF p l ∧ idxF p l < (l.length : Int) ∨ idxF p l = -1 := by
  unfold idxF
  cases hf : l.findIdx? p with
  | none => exact .inr rfl
  | some i =>
    have := (List.findIdx?_eq_some_iff_getElem.1 hf)
    obtain ⟨h, _⟩ := this
    have h1 : -1 ≤ (i : Int) ∧ (i : Int) < (l.length : Int) := ⟨by omega, by omega⟩
    exact .inl h1


noncomputable def s_lib_IndexFuncRat : Sig := ⟨235, [.list .rat, .clo .rat], [.val NI], fun ((l : List Rt), ((D : Rt → Prop), (p : Rt → Bool)), _) => ⟨[∀ x ∈ l, D x], (idxF p l, ()), ()⟩⟩
theorem ok_lib_IndexFuncRat : GSpec Tryz.prog s_lib_IndexFuncRat := by
  refine fn_known tab_ok fol Known.nil (by decide) Tryz.func235 ?_
  rintro ⟨(l : List Rt), ⟨(D : Rt → Prop), (p : Rt → Bool)⟩, ⟨⟩⟩ ⟨hl, _⟩ ⟨hD, _⟩
  have hl : l.length ≤ 9223372036854775807 := hl
  refine ⟨Nat, fun i => ⟨[(8, .sc (.num .i64 i))], [100000], []⟩, fun i => i ≤ l.length ∧ (l.take i).any p = false, fun i => l.length - i, ⟨0, ⟨Nat.zero_le _, rfl⟩, ?_⟩, ?_⟩
  · repeat' (first | apply And.intro | exact True.intro | exact Lf.mk (by with_reducible rfl) | apply Lf.mk)
    all_goals rfl
  · rintro i ⟨g1, g2⟩
    repeat' (first | with_reducible apply andAll_cons | with_reducible apply andAll_nil | (with_reducible apply Cf.mk; kernel_rfl) | apply And.intro | intro _ | exact True.intro | apply Lf.mk)
    all_goals (try simp only [Bool.not_eq_true', Bool.not_eq_false', Bool.not_not, decide_eq_true_eq, decide_eq_false_iff_not, beq_iff_eq, bne_iff_ne, beq_eq_false_iff_ne, bne_eq_false_iff_eq, ne_eq, Bool.and_eq_true, Bool.and_eq_false_iff, Bool.or_eq_true, Bool.or_eq_false_iff, Int.toNat_natCast, Nat.zero_add, Int.ofNat_lt, Int.ofNat_le, List.length_cons, List.length_nil, List.drop_zero, List.take_length] at *)
    all_goals first | omega | exact hD _ (getA_mem _ (by omega)) | skip
    · exact (idxF_hit _ (by assumption) g2 (by assumption)).symm
    · refine ⟨i + 1, ⟨by omega, take_all_false (VK.dflt (.rat)) (by assumption) g2 (by assumption)⟩, by omega, ?_⟩
      repeat' (first | apply And.intro | exact True.intro | exact Lf.mk (by with_reducible rfl) | apply Lf.mk)
      all_goals (rw [Int.natCast_add]; rfl)
    · rename_i h3
      rw [List.take_of_length_le (by omega)] at g2
      exact (idxF_none g2).symm
noncomputable def s_lib_ContainsFuncRat : Sig := ⟨197, [.list .rat, .clo .rat], [.val .bool], fun ((l : List Rt), ((D : Rt → Prop), (p : Rt → Bool)), _) => ⟨[∀ x ∈ l, D x], (l.any p, ()), ()⟩⟩
theorem ok_lib_ContainsFuncRat : GSpec Tryz.prog s_lib_ContainsFuncRat := by
  refine fn_known tab_ok fol (Known.nil.cons ok_lib_IndexFuncRat (by kernel_rfl)) (by decide) Tryz.func197 ?_
  rintro ⟨(l : List Rt), ⟨(D : Rt → Prop), (p : Rt → Bool)⟩, ⟨⟩⟩ ⟨hl, _⟩ ⟨hD, _⟩
  repeat' (first | with_reducible apply andAll_cons | with_reducible apply andAll_nil | (with_reducible apply Cf.mk; kernel_rfl) | apply And.intro | intro _ | exact True.intro | apply Lf.mk)
  all_goals (try simp only [Bool.not_eq_true', Bool.not_eq_false', Bool.not_not, decide_eq_true_eq, decide_eq_false_iff_not, beq_iff_eq, bne_iff_ne, beq_eq_false_iff_ne, bne_eq_false_iff_eq, ne_eq, Bool.and_eq_true, Bool.and_eq_false_iff, Bool.or_eq_true, Bool.or_eq_false_iff, Int.toNat_natCast, Nat.zero_add, Int.ofNat_lt, Int.ofNat_le, List.length_cons, List.length_nil, List.drop_zero, List.take_length] at *)
  all_goals first | exact hD _ (by assumption) | exact idxF_any

noncomputable def s_lib_IndexFuncPoint : Sig := ⟨218, [.list .pt, .clo .pt], [.val NI], fun ((l : List Pt), ((D : Pt → Prop), (p : Pt → Bool)), _) => ⟨[∀ x ∈ l, D x], (idxF p l, ()), ()⟩⟩
theorem ok_lib_IndexFuncPoint : GSpec Tryz.prog s_lib_IndexFuncPoint := by
  refine fn_known tab_ok fol Known.nil (by decide) Tryz.func218 ?_
  rintro ⟨(l : List Pt), ⟨(D : Pt → Prop), (p : Pt → Bool)⟩, ⟨⟩⟩ ⟨hl, _⟩ ⟨hD, _⟩
  have hl : l.length ≤ 9223372036854775807 := hl
  refine ⟨Nat, fun i => ⟨[(8, .sc (.num .i64 i))], [100000], []⟩, fun i => i ≤ l.length ∧ (l.take i).any p = false, fun i => l.length - i, ⟨0, ⟨Nat.zero_le _, rfl⟩, ?_⟩, ?_⟩
  · repeat' (first | apply And.intro | exact True.intro | exact Lf.mk (by with_reducible rfl) | apply Lf.mk)
    all_goals rfl
  · rintro i ⟨g1, g2⟩
    repeat' (first | with_reducible apply andAll_cons | with_reducible apply andAll_nil | (with_reducible apply Cf.mk; kernel_rfl) | apply And.intro | intro _ | exact True.intro | apply Lf.mk)
    all_goals (try simp only [Bool.not_eq_true', Bool.not_eq_false', Bool.not_not, decide_eq_true_eq, decide_eq_false_iff_not, beq_iff_eq, bne_iff_ne, beq_eq_false_iff_ne, bne_eq_false_iff_eq, ne_eq, Bool.and_eq_true, Bool.and_eq_false_iff, Bool.or_eq_true, Bool.or_eq_false_iff, Int.toNat_natCast, Nat.zero_add, Int.ofNat_lt, Int.ofNat_le, List.length_cons, List.length_nil, List.drop_zero, List.take_length] at *)
    all_goals first | omega | exact hD _ (getA_mem _ (by omega)) | skip
    · exact (idxF_hit _ (by assumption) g2 (by assumption)).symm
    · refine ⟨i + 1, ⟨by omega, take_all_false (VK.dflt (.pt)) (by assumption) g2 (by assumption)⟩, by omega, ?_⟩
      repeat' (first | apply And.intro | exact True.intro | exact Lf.mk (by with_reducible rfl) | apply Lf.mk)
      all_goals (rw [Int.natCast_add]; rfl)
    · rename_i h3
      rw [List.take_of_length_le (by omega)] at g2
      exact (idxF_none g2).symm
noncomputable def s_lib_ContainsFuncPoint : Sig := ⟨158, [.list .pt, .clo .pt], [.val .bool], fun ((l : List Pt), ((D : Pt → Prop), (p : Pt → Bool)), _) => ⟨[∀ x ∈ l, D x], (l.any p, ()), ()⟩⟩
theorem ok_lib_ContainsFuncPoint : GSpec Tryz.prog s_lib_ContainsFuncPoint := by
  refine fn_known tab_ok fol (Known.nil.cons ok_lib_IndexFuncPoint (by kernel_rfl)) (by decide) Tryz.func158 ?_
  rintro ⟨(l : List Pt), ⟨(D : Pt → Prop), (p : Pt → Bool)⟩, ⟨⟩⟩ ⟨hl, _⟩ ⟨hD, _⟩
  repeat' (first | with_reducible apply andAll_cons | with_reducible apply andAll_nil | (with_reducible apply Cf.mk; kernel_rfl) | apply And.intro | intro _ | exact True.intro | apply Lf.mk)
  all_goals (try simp only [Bool.not_eq_true', Bool.not_eq_false', Bool.not_not, decide_eq_true_eq, decide_eq_false_iff_not, beq_iff_eq, bne_iff_ne, beq_eq_false_iff_ne, bne_eq_false_iff_eq, ne_eq, Bool.and_eq_true, Bool.and_eq_false_iff, Bool.or_eq_true, Bool.or_eq_false_iff, Int.toNat_natCast, Nat.zero_add, Int.ofNat_lt, Int.ofNat_le, List.length_cons, List.length_nil, List.drop_zero, List.take_length] at *)
  all_goals first | exact hD _ (by assumption) | exact idxF_any

end Go.Vx
namespace Go.Vx
open Go
set_option maxRecDepth 100000
set_option linter.unusedSimpArgs false
set_option linter.unusedVariables false

theorem set_app_last {α : Type} (c : List α) (a b : α) : (c ++ [a]).set c.length b = c ++ [b] := by
  rw [List.set_append_right _ _ (Nat.le_refl _), Nat.sub_self]; rfl
theorem getA_app_last {α : Type} (d : α) (c : List α) (a : α) : getA d (c ++ [a]) c.length = a := by
  rw [getA_lt _ _ _ (by simp)]; simp

abbrev zR : Rt := ⟨0, 0⟩
def stF (s : List Rt × List Int) (x : Rt) : List Rt × List Int :=
  if 0 < s.1.length ∧ getA zR s.1 (s.1.length - 1) = x then (s.1, s.2.set (s.2.length - 1) (getA 0 s.2 (s.2.length - 1) + 1))
  else (s.1 ++ [x], s.2 ++ [1])
def stL (l : List Rt) (i : Nat) : List Rt × List Int := (l.take i).foldl stF ([], [])
theorem stL_succ {l : List Rt} {i : Nat} (h : i < l.length) : stL l (i + 1) = stF (stL l i) (getA zR l i) := by
  unfold stL
  rw [List.take_add_one, List.foldl_append, List.getElem?_eq_getElem h, getA_lt _ _ _ h]
  rfl
/-- what holds after i elements -/
def StI (l : List Rt) (i : Nat) (s : List Rt × List Int) : Prop :=
  s.1.length = s.2.length ∧ s.1.length ≤ i ∧ (0 < i → 0 < s.1.length ∧ getA zR s.1 (s.1.length - 1) = getA zR l (i - 1)) ∧ ∀ x ∈ s.2, 1 ≤ x ∧ x ≤ i
theorem stF_inv {l : List Rt} {i : Nat} {s : List Rt × List Int} (h : StI l i s) : StI l (i + 1) (stF s (getA zR l i)) := by
  obtain ⟨h1, h2, h3, h4⟩ := h
  unfold stF
  split
  · rename_i h5
    refine ⟨by simpa using h1, by simpa using (by omega : s.1.length ≤ i + 1), fun _ => ⟨h5.1, ?_⟩, ?_⟩
    · simpa using h5.2
    · intro x hx
      rcases List.mem_or_eq_of_mem_set hx with hx | rfl
      · have := h4 x hx; omega
      · have := h4 _ (getA_mem 0 (l := s.2) (i := s.2.length - 1) (by omega)); omega
  · refine ⟨by simp [h1], by simp; omega, fun _ => ⟨by simp, ?_⟩, ?_⟩
    · simp only [List.length_append, List.length_singleton, Nat.add_sub_cancel]
      rw [getA_app_last]
    · intro x hx
      rcases List.mem_append.1 hx with hx | hx
      · have := h4 x hx; omega
      · simp at hx; omega
theorem stL_inv (l : List Rt) : ∀ (i : Nat), i ≤ l.length → StI l i (stL l i)
  | 0, _ => ⟨rfl, Nat.le_refl _, fun h => by omega, fun x hx => by cases hx⟩
  | i + 1, h => by rw [stL_succ (by omega)]; exact stF_inv (stL_inv l i (by omega))
theorem stF_hit {s : List Rt × List Int} {x : Rt} (h : 0 < s.1.length) (h2 : getA zR s.1 (s.1.length - 1) = x) : stF s x = (s.1, s.2.set (s.2.length - 1) (getA 0 s.2 (s.2.length - 1) + 1)) := by
  unfold stF; rw [if_pos ⟨h, h2⟩]
theorem stF_miss {s : List Rt × List Int} {x : Rt} (h2 : 0 < s.1.length → getA zR s.1 (s.1.length - 1) ≠ x) : stF s x = (s.1 ++ [x], s.2 ++ [1]) := by
  unfold stF; rw [if_neg (fun h => h2 h.1 h.2)]

def maxF (m x : Int) : Int := if m < x then x else m
def maxL (l : List Int) : Int := (l.drop 1).foldl maxF (getA (0 : Int) l 0)
/-- the first of the greatest numbers, as a loop finds it -/
def bestF (l : List Int) : Nat → Nat
  | 0 => 0
  | i + 1 => if getA (0 : Int) l (bestF l i) < getA (0 : Int) l i then i else bestF l i
theorem bestF_spec (l : List Int) : ∀ (i : Nat), 0 < i → i ≤ l.length → bestF l i < i ∧ (∀ j, j < i → getA (0 : Int) l j ≤ getA (0 : Int) l (bestF l i)) ∧ (∀ j, j < bestF l i → getA (0 : Int) l j < getA (0 : Int) l (bestF l i))
  | 1, _, _ => by
    have : bestF l 1 = 0 := by unfold bestF; rw [if_neg]; · rfl
                               · intro h; exact absurd h (by simp [bestF])
    rw [this]
    exact ⟨by omega, fun j hj => by rw [show j = 0 by omega]; exact Int.le_refl _, fun j hj => by omega⟩
  | i + 2, _, h => by
    obtain ⟨h1, h2, h3⟩ := bestF_spec l (i + 1) (by omega) (by omega)
    show bestF l (i + 1 + 1) < _ ∧ (∀ j, j < _ → _ ≤ getA (0 : Int) l (bestF l (i + 1 + 1))) ∧ (∀ j, j < bestF l (i + 1 + 1) → _ < getA (0 : Int) l (bestF l (i + 1 + 1)))
    rw [show bestF l (i + 1 + 1) = if getA (0 : Int) l (bestF l (i + 1)) < getA (0 : Int) l (i + 1) then i + 1 else bestF l (i + 1) from rfl]
    split
    · rename_i h4
      refine ⟨by omega, fun j hj => ?_, fun j hj => ?_⟩
      · rcases Nat.lt_or_ge j (i + 1) with h5 | h5
        · have := h2 j h5; omega
        · rw [show j = i + 1 by omega]; exact Int.le_refl _
      · have := h2 j hj; omega
    · rename_i h4
      refine ⟨by omega, fun j hj => ?_, h3⟩
      rcases Nat.lt_or_ge j (i + 1) with h5 | h5
      · exact h2 j h5
      · rw [show j = i + 1 by omega]; omega
theorem foldl_max_le : ∀ (l : List Int) (m : Int), m ≤ l.foldl maxF m ∧ (∀ x ∈ l, x ≤ l.foldl maxF m) ∧ (l.foldl maxF m = m ∨ l.foldl maxF m ∈ l)
  | [], m => ⟨Int.le_refl _, (fun x hx => by cases hx), .inl rfl⟩
  | a :: r, m => by
    obtain ⟨h1, h2, h3⟩ := foldl_max_le r (maxF m a)
    rw [List.foldl_cons]
    have h4 : m ≤ maxF m a ∧ a ≤ maxF m a ∧ (maxF m a = m ∨ maxF m a = a) := by unfold maxF; split <;> omega
    refine ⟨by omega, fun x hx => ?_, ?_⟩
    · rcases List.mem_cons.1 hx with rfl | hx
      · omega
      · exact h2 x hx
    · rcases h3 with h3 | h3
      · rcases h4.2.2 with h5 | h5
        · exact .inl (h3.trans h5)
        · exact .inr (by rw [h3, h5]; simp)
      · exact .inr (List.mem_cons_of_mem _ h3)
theorem maxL_best {l : List Int} (h : 0 < l.length) : maxL l = getA (0 : Int) l (bestF l l.length) := by
  obtain ⟨h1, h2, h3⟩ := bestF_spec l l.length h (Nat.le_refl _)
  match l, h with
  | a :: r, _ =>
    obtain ⟨g1, g2, g3⟩ := foldl_max_le r a
    have e : maxL (a :: r) = r.foldl maxF a := rfl
    rw [e]
    apply Int.le_antisymm
    · have : ∃ j, j < (a :: r).length ∧ getA (0 : Int) (a :: r) j = r.foldl maxF a := by
        have hm : r.foldl maxF a ∈ a :: r := by
          rcases g3 with g3 | g3
          · rw [g3]; simp
          · exact List.mem_cons_of_mem _ g3
        obtain ⟨j, hj, he⟩ := List.mem_iff_getElem.1 hm
        exact ⟨j, hj, by rw [getA_lt _ _ _ hj, he]⟩
      obtain ⟨j, hj, he⟩ := this
      rw [← he]; exact h2 j hj
    · have hm : getA (0 : Int) (a :: r) (bestF (a :: r) (a :: r).length) ∈ a :: r := getA_mem _ h1
      rcases List.mem_cons.1 hm with hm | hm
      · rw [hm]; exact g1
      · exact g2 _ hm
theorem idx_best {l : List Int} (h : 0 < l.length) : idxF (fun y => maxL l == y) l = (bestF l l.length : Nat) := by
  obtain ⟨h1, h2, h3⟩ := bestF_spec l l.length h (Nat.le_refl _)
  have e := maxL_best h
  refine idxF_hit (0 : Int) h1 ?_ (by rw [e]; simp)
  rw [List.any_eq_false]
  intro x hx
  obtain ⟨j, hj, he⟩ := List.mem_take_iff_getElem.1 hx
  have := h3 j (by omega)
  rw [getA_lt _ _ _ (by omega), he] at this
  rw [e]; simp; omega

/-- a list with each number at least the one before -/
def sortF {α : Type} (d : α) (c : α → α → Int) (l : List α) : Bool := (List.range (l.length - 1)).all fun i => !decide (c (getA d l (i + 1)) (getA d l i) < 0)
theorem sortF_iff {α : Type} {d : α} {c : α → α → Int} {l : List α} : sortF d c l = true ↔ ∀ i, i + 1 < l.length → ¬ c (getA d l (i + 1)) (getA d l i) < 0 := by
  unfold sortF
  rw [List.all_eq_true]
  constructor
  · intro h i hi
    have := h i (List.mem_range.2 (by omega))
    simpa using this
  · intro h i hi
    have := h i (by have := List.mem_range.1 hi; omega)
    simpa using this
theorem sgn_negI (n : Int) : sgn (-n) = - sgn n := by
  unfold sgn
  rcases Int.lt_trichotomy n 0 with h | h | h
  · rw [if_neg (by omega), if_pos (by omega), if_pos h]; rfl
  · subst h; rfl
  · rw [if_pos (by omega), if_neg (by omega), if_pos h]
theorem cmpRt_swap (a b : Rt) : cmpRt b a = - cmpRt a b := by
  unfold cmpRt; rw [← sgn_negI, Int.neg_sub]
@[irreducible] def grR (a b : Rt) : Rt := if a.num * b.den < b.num * a.den then b else a
def mergeR (a b : List Rt) (i : Nat) : List Rt := (List.range i).map fun k => grR (getA zR a k) (getA zR b k)
theorem mergeR_length (a b : List Rt) (i : Nat) : (mergeR a b i).length = i := by simp [mergeR]
theorem mergeR_succ (a b : List Rt) (i : Nat) : mergeR a b i ++ [grR (getA zR a i) (getA zR b i)] = mergeR a b (i + 1) := by
  unfold mergeR; rw [List.range_succ, List.map_append]; rfl
theorem cmpRt_neg {a b : Rt} : cmpRt a b < 0 ↔ a.num * b.den < b.num * a.den := by
  unfold cmpRt sgn; split <;> (try split) <;> omega
end Go.Vx
namespace Go.Vx
open Go Go.Proofs
set_option maxRecDepth 100000
set_option linter.unusedSimpArgs false
set_option linter.unusedVariables false

noncomputable def s_impl_isUnit : Sig := ⟨116, [.val .rat], [.val .bool], fun ((r : Rt), _) => ⟨[], (unitRt r, ()), ()⟩⟩
noncomputable def s_impl_areUnits_1 : Sig := ⟨214, [.val .rat], [.val .bool], fun ((r : Rt), _) => ⟨[], (!unitRt r, ()), ()⟩⟩
noncomputable def s_impl_areUnits : Sig := ⟨152, [.list .rat], [.val .bool], fun ((l : List Rt), _) => ⟨[], (l.all unitRt, ()), ()⟩⟩
noncomputable def s_spec_raUnit : Sig := ⟨109, [.val .rat], [.val .bool], fun ((r : Rt), _) => ⟨[], (unitRt r, ()), ()⟩⟩

theorem ok_impl_isUnit : GSpec Tryz.prog s_impl_isUnit := by
  refine fn_known tab_ok fol (Known.nil.cons ok_impl_isRat (by kernel_rfl)) (by decide) Tryz.func116 ?_
  rintro ⟨⟨(n : Int), (d : Int)⟩, ⟨⟩⟩ hl _
  repeat' (first | with_reducible apply andAll_cons | with_reducible apply andAll_nil | (with_reducible apply Cf.mk; kernel_rfl) | apply And.intro | intro _ | exact True.intro | apply Lf.mk)
  all_goals (try simp only [Bool.not_eq_true', Bool.not_eq_false', Bool.not_not, decide_eq_true_eq, decide_eq_false_iff_not, beq_iff_eq, bne_iff_ne, beq_eq_false_iff_ne, bne_eq_false_iff_eq, ne_eq, Bool.and_eq_true, Bool.and_eq_false_iff, Bool.or_eq_true, Bool.or_eq_false_iff, Int.toNat_natCast, Nat.zero_add, Int.ofNat_lt, Int.ofNat_le, List.length_cons, List.length_nil, List.drop_zero, List.take_length] at *)
  all_goals (try change @Eq Bool _ _)
  all_goals (simp_all [unitRt])
  all_goals omega
theorem ok_impl_areUnits_1 : GSpec Tryz.prog s_impl_areUnits_1 := by
  refine fn_known tab_ok fol (Known.nil.cons ok_impl_isUnit (by kernel_rfl)) (by decide) Tryz.func214 ?_
  rintro ⟨⟨(n : Int), (d : Int)⟩, ⟨⟩⟩ hl _
  repeat' (first | with_reducible apply andAll_cons | with_reducible apply andAll_nil | (with_reducible apply Cf.mk; kernel_rfl) | apply And.intro | intro _ | exact True.intro | apply Lf.mk)
  all_goals rfl
theorem any_not {α : Type} (p : α → Bool) (l : List α) : (!(l.any fun x => !p x)) = l.all p := by
  rw [List.not_any_eq_all_not]; simp
theorem ok_impl_areUnits : GSpec Tryz.prog s_impl_areUnits := by
  refine fn_known tab_ok fol ((Known.nil.cons ok_lib_ContainsFuncRat (by kernel_rfl)).cons ok_impl_areUnits_1 (by kernel_rfl)) (by decide) Tryz.func152 ?_
  rintro ⟨(l : List Rt), ⟨⟩⟩ hl _
  repeat' (first | with_reducible apply andAll_cons | with_reducible apply andAll_nil | (with_reducible apply Cf.mk; kernel_rfl) | apply And.intro | intro _ | exact True.intro | apply Lf.mk)
  all_goals (try simp only [Bool.not_eq_true', Bool.not_eq_false', Bool.not_not, decide_eq_true_eq, decide_eq_false_iff_not, beq_iff_eq, bne_iff_ne, beq_eq_false_iff_ne, bne_eq_false_iff_eq, ne_eq, Bool.and_eq_true, Bool.and_eq_false_iff, Bool.or_eq_true, Bool.or_eq_false_iff, Int.toNat_natCast, Nat.zero_add, Int.ofNat_lt, Int.ofNat_le, List.length_cons, List.length_nil, List.drop_zero, List.take_length] at *)
  all_goals first | exact any_not _ _ | trivial | rfl | trace_state
theorem ok_spec_raUnit : GSpec Tryz.prog s_spec_raUnit := by
  refine fn_known tab_ok fol ((Known.nil.cons ok_spec_raGood (by kernel_rfl)).cons ok_spec_l1In (by kernel_rfl)) (by decide) Tryz.func109 ?_
  rintro ⟨⟨(n : Int), (d : Int)⟩, ⟨⟩⟩ hl _
  repeat' (first | with_reducible apply andAll_cons | with_reducible apply andAll_nil | (with_reducible apply Cf.mk; kernel_rfl) | apply And.intro | intro _ | exact True.intro | apply Lf.mk)
  all_goals (try simp only [Bool.not_eq_true', Bool.not_eq_false', Bool.not_not, decide_eq_true_eq, decide_eq_false_iff_not, beq_iff_eq, bne_iff_ne, beq_eq_false_iff_ne, bne_eq_false_iff_eq, ne_eq, Bool.and_eq_true, Bool.and_eq_false_iff, Bool.or_eq_true, Bool.or_eq_false_iff, Int.toNat_natCast, Nat.zero_add, Int.ofNat_lt, Int.ofNat_le, List.length_cons, List.length_nil, List.drop_zero, List.take_length] at *)
  all_goals (try change @Eq Bool _ _)
  all_goals (simp_all [unitRt, inB])
  all_goals omega
end Go.Vx
