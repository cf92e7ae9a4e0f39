/- Paths down the tree of fractions: plain laws. -/
import Derived.Test.YtfnfbomnijlhcaaDoorVpSb
namespace Go.Vx
open Go
set_option maxRecDepth 100000
set_option linter.unusedSimpArgs false
set_option linter.unusedVariables false

/-- the string of some bytes -/
@[irreducible] def bA (l : List UInt8) : ByteArray := ⟨l.toArray⟩
theorem bA_eq (l : List UInt8) : bA l = ⟨l.toArray⟩ := by unfold bA; rfl
theorem bA_nil : bA [] = ByteArray.empty := by unfold bA; rfl
theorem bA_app (l : List UInt8) (c : UInt8) : bA l ++ ⟨#[c]⟩ = bA (l ++ [c]) := by
  unfold bA
  apply ByteArray.ext
  rw [ByteArray.data_append]
  apply Array.ext'
  simp
theorem bA_size (l : List UInt8) : (bA l).size = l.length := by unfold bA; rfl

/-- the path, k letters more at most -/
def pthF_ : Nat → Int → Int → List UInt8 → List UInt8 × Bool
  | 0, a, b, s => bif decide (a = b) then (s, true) else ([], false)
  | k + 1, a, b, s => bif decide (a = b) then (s, true) else bif decide (a < b) then pthF_ k a (b - a) (s ++ [76]) else pthF_ k (a - b) b (s ++ [82])
@[irreducible] def pthF (k : Nat) (a b : Int) (s : List UInt8) : List UInt8 × Bool := pthF_ k a b s
theorem pthF_end (k : Nat) {a b : Int} (s : List UInt8) (h : a = b) : pthF k a b s = (s, true) := by
  unfold pthF
  cases k <;> (unfold pthF_; rw [decide_eq_true h]; rfl)
theorem pthF_out {a b : Int} (s : List UInt8) (h : ¬ a = b) : pthF 0 a b s = ([], false) := by
  unfold pthF pthF_; rw [decide_eq_false h]; rfl
theorem pthF_l (k : Nat) {a b : Int} (s : List UInt8) (h : ¬ a = b) (h2 : a < b) : pthF (k + 1) a b s = pthF k a (b - a) (s ++ [76]) := by
  unfold pthF; rw [pthF_, decide_eq_false h, decide_eq_true h2]; rfl
theorem pthF_r (k : Nat) {a b : Int} (s : List UInt8) (h : ¬ a = b) (h2 : ¬ a < b) : pthF (k + 1) a b s = pthF k (a - b) b (s ++ [82]) := by
  unfold pthF; rw [pthF_, decide_eq_false h, decide_eq_false h2]; rfl
noncomputable def ptRes (x : Rt) : List UInt8 × Bool := match goodRt x && decide (0 < x.num) with
  | true => pthF 60 x.num x.den []
  | false => ([], false)
theorem ptRes_t {x : Rt} (h : goodRt x = true) (h2 : 0 < x.num) : ptRes x = pthF 60 x.num x.den [] := by unfold ptRes; rw [h, decide_eq_true h2]; rfl
theorem ptRes_f1 {x : Rt} (h : goodRt x = false) : ptRes x = ([], false) := by unfold ptRes; rw [h]; rfl
theorem ptRes_f2 {x : Rt} (h : ¬ 0 < x.num) : ptRes x = ([], false) := by unfold ptRes; rw [decide_eq_false h, Bool.and_false]

/-- a walker: the two fractions around where it is -/
def hereP (p : Pt) : Rt := ⟨p.x.num + p.y.num, p.x.den + p.y.den⟩
def turnP (p : Pt) (left : Bool) : Pt := match left with
  | true => ⟨p.x, hereP p⟩
  | false => ⟨hereP p, p.y⟩
@[irreducible] def smallP (p : Pt) : Prop := (-4000000000000000000 ≤ p.x.num ∧ p.x.num ≤ 4000000000000000000) ∧ (-4000000000000000000 ≤ p.y.num ∧ p.y.num ≤ 4000000000000000000) ∧ (-4000000000000000000 ≤ p.x.den ∧ p.x.den ≤ 4000000000000000000) ∧ (-4000000000000000000 ≤ p.y.den ∧ p.y.den ≤ 4000000000000000000)
/-- where the walker is on its way to x, a and b to go -/
structure PI (x : Rt) (a b : Int) (p : Pt) : Prop where
  n : x.num = a * p.y.num + b * p.x.num
  d : x.den = a * p.y.den + b * p.x.den
  det : p.y.num * p.x.den - p.x.num * p.y.den = 1
  ha : 1 ≤ a
  hb : 1 ≤ b
  g : Int.gcd a b = 1
  xn : 0 ≤ p.x.num
  xd : 1 ≤ p.x.den
  yn : 1 ≤ p.y.num
  yd : 0 ≤ p.y.den
theorem PI.start {x : Rt} (h : goodRt x = true) (h2 : 0 < x.num) : PI x x.num x.den ⟨⟨0, 1⟩, ⟨1, 0⟩⟩ := by
  rw [goodRt_iff] at h
  exact ⟨by dsimp only; omega, by dsimp only; omega, by decide, by omega, by omega, by omega, by decide, by decide, by decide, by decide⟩
theorem le_mul_of {a y : Int} (ha : 1 ≤ a) (hy : 0 ≤ y) : y ≤ a * y := by
  have := Int.mul_nonneg (show 0 ≤ a - 1 by omega) hy
  rw [Int.sub_mul, Int.one_mul] at this
  omega
theorem PI.bd {x : Rt} {a b : Int} {p : Pt} (h : PI x a b p) : p.x.num + p.y.num ≤ x.num ∧ p.x.den + p.y.den ≤ x.den := by
  have h1 := le_mul_of h.ha (show 0 ≤ p.y.num by have := h.yn; omega)
  have h2 := le_mul_of h.hb h.xn
  have h3 := le_mul_of h.ha h.yd
  have h4 := le_mul_of h.hb (show 0 ≤ p.x.den by have := h.xd; omega)
  have := h.n
  have := h.d
  omega
theorem PI.small {x : Rt} {a b : Int} {p : Pt} (hx : goodRt x = true) (h : PI x a b p) : smallP p := by
  have := h.bd
  rw [goodRt_iff] at hx
  have h1 := h.xn; have h2 := h.xd; have h3 := h.yn; have h4 := h.yd
  unfold smallP
  omega
theorem PI.here {x : Rt} {a b : Int} {p : Pt} (h : PI x a b p) : hereP p = x ↔ a = b := by
  constructor
  · intro e
    have e1 : p.x.num + p.y.num = x.num := by rw [← e]; rfl
    have e2 : p.x.den + p.y.den = x.den := by rw [← e]; rfl
    have h1 := h.n; have h2 := h.d
    have n1 := Int.mul_nonneg (show 0 ≤ a - 1 by have := h.ha; omega) (show 0 ≤ p.y.num by have := h.yn; omega)
    have n2 := Int.mul_nonneg (show 0 ≤ b - 1 by have := h.hb; omega) h.xn
    have n3 := Int.mul_nonneg (show 0 ≤ a - 1 by have := h.ha; omega) h.yd
    have n4 := Int.mul_nonneg (show 0 ≤ b - 1 by have := h.hb; omega) (show 0 ≤ p.x.den by have := h.xd; omega)
    have k1 := le_mul_of h.yn (show 0 ≤ a - 1 by have := h.ha; omega)
    have k2 := le_mul_of h.xd (show 0 ≤ b - 1 by have := h.hb; omega)
    rw [Int.mul_comm] at k1 k2
    rw [Int.sub_mul, Int.one_mul] at n1 n2 n3 n4 k1 k2
    have := h.ha; have := h.hb
    omega
  · intro e
    have hg := h.g
    rw [← e, Int.gcd_self] at hg
    have h1 : a = 1 := by have := h.ha; omega
    have h2 : b = 1 := by omega
    have n := h.n; have d := h.d
    rw [h1, h2] at n d
    obtain ⟨xn, xd⟩ := x
    unfold hereP
    dsimp only at n d
    congr 1 <;> omega
theorem PI.less {x : Rt} {a b : Int} {p : Pt} (h : PI x a b p) : lessRt x (hereP p) = decide (a < b) := by
  unfold lessRt hereP
  dsimp only
  have hd := h.det
  have key : x.num * (p.x.den + p.y.den) - (p.x.num + p.y.num) * x.den = (a - b) * (p.y.num * p.x.den - p.x.num * p.y.den) := by
    rw [h.n, h.d]; grind
  rw [hd, Int.mul_one] at key
  rw [Bool.eq_iff_iff, decide_eq_true_eq, decide_eq_true_eq]
  omega
theorem PI.left {x : Rt} {a b : Int} {p : Pt} (h : PI x a b p) (hlt : a < b) : PI x a (b - a) (turnP p true) := by
  have h1 := h.n; have h2 := h.d; have h3 := h.det; have h4 := h.ha; have h6 := h.xn; have h7 := h.xd; have h8 := h.yn; have h9 := h.yd
  refine ⟨?_, ?_, ?_, h4, by omega, ?_, h6, h7, ?_, ?_⟩
  · show x.num = a * (p.x.num + p.y.num) + (b - a) * p.x.num; grind
  · show x.den = a * (p.x.den + p.y.den) + (b - a) * p.x.den; grind
  · show (p.x.num + p.y.num) * p.x.den - p.x.num * (p.x.den + p.y.den) = 1; grind
  · rw [← h.g, Int.gcd_sub_right_right_of_dvd]
    all_goals first | exact Int.dvd_refl _ | skip
  · show 1 ≤ p.x.num + p.y.num; omega
  · show 0 ≤ p.x.den + p.y.den; omega
theorem PI.right {x : Rt} {a b : Int} {p : Pt} (h : PI x a b p) (hne : ¬ a = b) (hlt : ¬ a < b) : PI x (a - b) b (turnP p false) := by
  have h1 := h.n; have h2 := h.d; have h3 := h.det; have h5 := h.hb; have h6 := h.xn; have h7 := h.xd; have h8 := h.yn; have h9 := h.yd
  refine ⟨?_, ?_, ?_, by omega, h5, ?_, ?_, ?_, h8, h9⟩
  · show x.num = (a - b) * p.y.num + b * (p.x.num + p.y.num); grind
  · show x.den = (a - b) * p.y.den + b * (p.x.den + p.y.den); grind
  · show p.y.num * (p.x.den + p.y.den) - (p.x.num + p.y.num) * p.y.den = 1; grind
  · rw [← h.g, Int.gcd_comm, Int.gcd_comm a b]
    rw [Int.gcd_sub_right_right_of_dvd]
    all_goals first | exact Int.dvd_refl _ | skip
  · show 0 ≤ p.x.num + p.y.num; omega
  · show 1 ≤ p.x.den + p.y.den; omega
end Go.Vx
