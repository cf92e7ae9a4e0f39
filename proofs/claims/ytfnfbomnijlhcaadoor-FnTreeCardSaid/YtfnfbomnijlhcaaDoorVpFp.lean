/- Following a path down the tree of fractions: plain laws. -/
import Derived.Test.YtfnfbomnijlhcaaDoorVpPa
namespace Go.Vx
open Go
set_option maxRecDepth 100000
set_option linter.unusedSimpArgs false
set_option linter.unusedVariables false

noncomputable def fpF : List UInt8 → Pt → Rt × Bool
  | [], p => (hereP p, true)
  | c :: r, p => match decide (c = 76) || decide (c = 82) with
    | true => match goodRt (hereP (turnP p (decide (c = 76)))) with
      | true => fpF r (turnP p (decide (c = 76)))
      | false => (⟨0, 0⟩, false)
    | false => (⟨0, 0⟩, false)
@[irreducible] noncomputable def fpG (l : List UInt8) (p : Pt) : Rt × Bool := fpF l p
theorem fpG_nil (p : Pt) : fpG [] p = (hereP p, true) := by unfold fpG fpF; rfl
theorem fpG_bad {c : UInt8} (r : List UInt8) (p : Pt) (h1 : c ≠ 76) (h2 : c ≠ 82) : fpG (c :: r) p = (⟨0, 0⟩, false) := by
  unfold fpG fpF; rw [decide_eq_false h1, decide_eq_false h2]; rfl
theorem fpG_step {c : UInt8} {b : Bool} (r : List UInt8) (p : Pt) (h1 : c = 76 ∨ c = 82) (h : b = decide (c = 76)) (hg : goodRt (hereP (turnP p b)) = true) : fpG (c :: r) p = fpG r (turnP p b) := by
  subst h
  have : (decide (c = 76) || decide (c = 82)) = true := by rcases h1 with h | h <;> simp [h]
  unfold fpG; rw [fpF, this]; dsimp only; rw [hg]
theorem fpG_stop {c : UInt8} {b : Bool} (r : List UInt8) (p : Pt) (h : b = decide (c = 76)) (hg : goodRt (hereP (turnP p b)) = false) : fpG (c :: r) p = (⟨0, 0⟩, false) := by
  subst h
  by_cases h1 : c = 76 ∨ c = 82
  · have : (decide (c = 76) || decide (c = 82)) = true := by rcases h1 with h | h <;> simp [h]
    unfold fpG; rw [fpF, this]; dsimp only; rw [hg]
  · exact fpG_bad r p (fun h => h1 (.inl h)) (fun h => h1 (.inr h))
theorem fpG_other : ∀ (l : List UInt8) (p : Pt), (∃ c ∈ l, c ≠ 76 ∧ c ≠ 82) → fpG l p = (⟨0, 0⟩, false)
  | [], _, ⟨c, h, _⟩ => by cases h
  | c :: r, p, h => by
    by_cases h1 : c = 76 ∨ c = 82
    · have h2 : ∃ c ∈ r, c ≠ 76 ∧ c ≠ 82 := by
        obtain ⟨d, hd, h3, h4⟩ := h
        rcases List.mem_cons.1 hd with e | hd
        · subst e; rcases h1 with h1 | h1
          · exact (h3 h1).elim
          · exact (h4 h1).elim
        · exact ⟨d, hd, h3, h4⟩
      cases hg : goodRt (hereP (turnP p (decide (c = 76))))
      · exact fpG_stop r p rfl hg
      · rw [fpG_step r p h1 rfl hg]; exact fpG_other r _ h2
    · exact fpG_bad r p (fun h => h1 (.inl h)) (fun h => h1 (.inr h))
noncomputable def fpRes (s : ByteArray) : Rt × Bool := match decide (s.size ≤ 60) with
  | true => fpG s.data.toList ⟨⟨0, 1⟩, ⟨1, 0⟩⟩
  | false => (⟨0, 0⟩, false)
theorem fpRes_t {s : ByteArray} (h : s.size ≤ 60) : fpRes s = fpG s.data.toList ⟨⟨0, 1⟩, ⟨1, 0⟩⟩ := by unfold fpRes; rw [decide_eq_true h]
theorem fpRes_f {s : ByteArray} (h : ¬ s.size ≤ 60) : fpRes s = (⟨0, 0⟩, false) := by unfold fpRes; rw [decide_eq_false h]

/-- two fractions that are neighbours, and what lies between them -/
structure WI (p : Pt) : Prop where
  det : p.y.num * p.x.den - p.x.num * p.y.den = 1
  xn : 0 ≤ p.x.num
  xd : 1 ≤ p.x.den
  yn : 1 ≤ p.y.num
  yd : 0 ≤ p.y.den
  bn : p.x.num + p.y.num ≤ 1000000000
  bd : p.x.den + p.y.den ≤ 1000000000
theorem WI.start : WI ⟨⟨0, 1⟩, ⟨1, 0⟩⟩ := ⟨by decide, by decide, by decide, by decide, by decide, by decide, by decide⟩
theorem det_gcd {a b x y : Int} (h : a * y - x * b = 1) : Int.gcd a b = 1 := by
  have h1 : (Int.gcd a b : Int) ∣ 1 := by
    rw [← h]
    exact Int.dvd_sub (Int.dvd_mul_of_dvd_left (Int.gcd_dvd_left ..)) (Int.dvd_mul_of_dvd_right (Int.gcd_dvd_right ..))
  have h2 := Int.le_of_dvd (by decide) h1
  have h3 : Int.gcd a b ≠ 0 := by intro e; rw [e] at h1; simp at h1
  omega
theorem WI.pre {p : Pt} (h : WI p) (b : Bool) : (turnP p b).y.num * (turnP p b).x.den - (turnP p b).x.num * (turnP p b).y.den = 1 ∧ 0 ≤ (turnP p b).x.num ∧ 1 ≤ (turnP p b).x.den ∧ 1 ≤ (turnP p b).y.num ∧ 0 ≤ (turnP p b).y.den := by
  have h3 := h.det; have h6 := h.xn; have h7 := h.xd; have h8 := h.yn; have h9 := h.yd
  cases b
  · refine ⟨?_, ?_, ?_, h8, h9⟩
    · show p.y.num * (p.x.den + p.y.den) - (p.x.num + p.y.num) * p.y.den = 1; grind
    · show 0 ≤ p.x.num + p.y.num; omega
    · show 1 ≤ p.x.den + p.y.den; omega
  · refine ⟨?_, h6, h7, ?_, ?_⟩
    · show (p.x.num + p.y.num) * p.x.den - p.x.num * (p.x.den + p.y.den) = 1; grind
    · show 1 ≤ p.x.num + p.y.num; omega
    · show 0 ≤ p.x.den + p.y.den; omega
theorem here_gcd {p : Pt} (h : p.y.num * p.x.den - p.x.num * p.y.den = 1) : Int.gcd (p.x.num + p.y.num) (p.x.den + p.y.den) = 1 := by
  apply det_gcd (x := p.x.num) (y := p.x.den)
  grind
theorem WI.good {p : Pt} (h : WI p) (b : Bool) : goodRt (hereP (turnP p b)) = decide ((hereP (turnP p b)).num ≤ 1000000000 ∧ (hereP (turnP p b)).den ≤ 1000000000) := by
  obtain ⟨h1, h2, h3, h4, h5⟩ := h.pre b
  have hg := here_gcd h1
  rw [Bool.eq_iff_iff, goodRt_iff, decide_eq_true_eq]
  unfold hereP
  dsimp only
  constructor
  · rintro ⟨k1, k2, k3, k4, k5⟩; omega
  · rintro ⟨k1, k2⟩
    refine ⟨by omega, by omega, by omega, by omega, ?_⟩
    rw [hg]; rfl
theorem WI.turn {p : Pt} (h : WI p) {b : Bool} (hg : goodRt (hereP (turnP p b)) = true) : WI (turnP p b) := by
  obtain ⟨h1, h2, h3, h4, h5⟩ := h.pre b
  rw [h.good b, decide_eq_true_eq] at hg
  exact ⟨h1, h2, h3, h4, h5, hg.1, hg.2⟩
theorem WI.goodHere {p : Pt} (h : WI p) : goodRt (hereP p) = true := by
  have hg := here_gcd h.det
  have := h.xn; have := h.xd; have := h.yn; have := h.yd; have := h.bn; have := h.bd
  rw [goodRt_iff]
  unfold hereP
  dsimp only
  refine ⟨by omega, by omega, by omega, by omega, ?_⟩
  rw [hg]; rfl
theorem WI.small {p : Pt} (h : WI p) : smallP p := by
  have := h.xn; have := h.xd; have := h.yn; have := h.yd; have := h.bn; have := h.bd
  unfold smallP
  omega
theorem WI.small2 {p : Pt} (h : WI p) (b : Bool) : smallP (turnP p b) := by
  have := h.xn; have := h.xd; have := h.yn; have := h.yd; have := h.bn; have := h.bd
  unfold smallP turnP hereP
  cases b <;> dsimp only <;> omega
end Go.Vx
