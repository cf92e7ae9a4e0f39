/- The library's functions on slices, at the element types of this seat. -/
import Derived.Test.YtbobepdmphmgbaaDoorVxA
namespace Go.Vx
open Go Go.Proofs
set_option maxRecDepth 100000
set_option linter.unusedSimpArgs false
set_option linter.unusedVariables false

def idxF {α : Type} (p : α → Bool) (l : List α) : Int := match l.findIdx? p with
  | some i => (i : Int)
  | none => -1
theorem take_all_false {α : Type} {p : α → Bool} (d : α) {l : List α} {i : Nat} (h : i < l.length) (h1 : (l.take i).any p = false) (h2 : p (getA d l i) = false) : (l.take (i + 1)).any p = false := by
  rw [getA_eq] at h2
  rw [List.take_add_one, List.any_append, h1]
  simp [List.getD, h] at h2
  simp [h, h2]
theorem idxF_hit {α : Type} {p : α → Bool} (d : α) {l : List α} {i : Nat} (h : i < l.length) (h1 : (l.take i).any p = false) (h2 : p (getA d l i) = true) : idxF p l = i := by
  have : l.findIdx? p = some i := by
    rw [List.findIdx?_eq_some_iff_getElem]
    refine ⟨h, ?_, fun j hj => ?_⟩
    · rw [getA_eq] at h2; simpa [List.getD, h] using h2
    · have := (List.any_eq_false.1 h1) l[j] (by
        rw [List.mem_take_iff_getElem]; exact ⟨j, by omega, rfl⟩)
      simpa using this
  unfold idxF; rw [this]
theorem idxF_none {α : Type} {p : α → Bool} {l : List α} (h1 : l.any p = false) : idxF p l = -1 := by
  have : l.findIdx? p = none := by
    rw [List.findIdx?_eq_none_iff]
    intro x hx
    have := (List.any_eq_false.1 h1) x hx
    simpa using this
  unfold idxF; rw [this]
theorem idxF_any {α : Type} {p : α → Bool} {l : List α} : decide (0 ≤ idxF p l) = l.any p := by
  cases h : l.any p
  · rw [idxF_none h]; rfl
  · have : l.findIdx? p ≠ none := by
      rw [ne_eq, List.findIdx?_eq_none_iff]
      intro h2
      obtain ⟨x, hx, hp⟩ := List.any_eq_true.1 h
      rw [h2 x hx] at hp; cases hp
    unfold idxF
    cases hf : l.findIdx? p with
    | none => exact (this hf).elim
    | some i => simp
theorem getA_mem {α : Type} (d : α) {l : List α} {i : Nat} (h : i < l.length) : getA d l i ∈ l := by
  rw [getA_eq]; simp [List.getD, h]
theorem idxF_rng {α : Type} (p : α → Bool) (l : List α) : -1 ≤ idxF p l ∧ idxF p l < (l.length : Int) ∨ idxF p l = -1 := by
  unfold idxF
  cases hf : l.findIdx? p with
  | none => exact .inr rfl
  | some i =>
    have := (List.findIdx?_eq_some_iff_getElem.1 hf)
    obtain ⟨h, _⟩ := this
    have h1 : -1 ≤ (i : Int) ∧ (i : Int) < (l.length : Int) := ⟨by omega, by omega⟩
    exact .inl h1




end Go.Vx
