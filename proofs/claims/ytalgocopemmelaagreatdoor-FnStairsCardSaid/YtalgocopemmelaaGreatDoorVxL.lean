/- The laws' own helpers: equality of results, marks written into them, copies of arguments. -/
import Derived.Test.YtalgocopemmelaaGreatDoorVxA
namespace Go.Vx
open Go Go.Proofs
set_option maxRecDepth 100000
set_option linter.unusedSimpArgs false
set_option linter.unusedVariables false

def mkI (k : Int) (n : Nat) : List Int := (List.range n).map fun (i : Nat) => k + (i : Int)
def mkR (k : Int) (n : Nat) : List Rt := (List.range n).map fun (i : Nat) => ⟨k + 2 * (i : Int), k + 2 * (i : Int) + 1⟩

theorem mkI_length (k : Int) (n : Nat) : (mkI k n).length = n := by simp [mkI]
theorem mkR_length (k : Int) (n : Nat) : (mkR k n).length = n := by simp [mkR]
theorem getA_lt {α : Type} (d : α) (l : List α) (i : Nat) (h : i < l.length) : getA d l i = l[i] := by
  rw [getA_eq]; simp [List.getD, h]
theorem take_eq_succ {α : Type} (d : α) (a b : List α) (i : Nat) (ha : i < a.length) (hb : i < b.length) (h : a.take i = b.take i) (hx : getA d a i = getA d b i) : a.take (i + 1) = b.take (i + 1) := by
  rw [getA_lt d a i ha, getA_lt d b i hb] at hx
  rw [List.take_add_one, List.take_add_one, h, List.getElem?_eq_getElem ha, List.getElem?_eq_getElem hb, hx]
theorem eq_of_take {α : Type} {a b : List α} {i : Nat} (hl : a.length = b.length) (hi : ¬ i < a.length) (h : a.take i = b.take i) : a = b := by
  rwa [List.take_of_length_le (by omega), List.take_of_length_le (by omega)] at h
theorem set_mark {α : Type} (f : Nat → α) (l : List α) (i : Nat) (x : α) (hi : i < l.length) (hx : x = f i) :
    (((List.range i).map f ++ l.drop i).set i x) = (List.range (i + 1)).map f ++ l.drop (i + 1) := by
  subst hx
  rw [List.set_append_right _ _ (by simp)]
  simp only [List.length_map, List.length_range, Nat.sub_self]
  rw [List.drop_eq_getElem_cons hi, List.set_cons_zero, List.range_succ, List.map_append, List.append_assoc]
  rfl
theorem getA_mark {α : Type} (d : α) (f : Nat → α) (l : List α) (i : Nat) (hi : i < l.length) : getA d ((List.range i).map f ++ l.drop i) i = getA d l i := by
  rw [getA_eq, getA_eq, List.getD, List.getD, List.getElem?_append_right (by simp)]
  simp
theorem mark_length {α : Type} (f : Nat → α) (l : List α) (i : Nat) (hi : i ≤ l.length) : ((List.range i).map f ++ l.drop i).length = l.length := by simp; omega
theorem mark_end {α : Type} (f : Nat → α) (l : List α) (i : Nat) (hi : ¬ i < l.length) (hi' : i ≤ l.length) : (List.range i).map f ++ l.drop i = (List.range l.length).map f := by
  have : i = l.length := by omega
  subst this; simp
theorem take_range_succ {α : Type} (d : α) (f : Nat → α) (l : List α) (i : Nat) (hi : i < l.length) (h : l.take i = (List.range i).map f) (hx : getA d l i = f i) : l.take (i + 1) = (List.range (i + 1)).map f := by
  rw [getA_lt d l i hi] at hx
  rw [List.take_add_one, h, List.getElem?_eq_getElem hi, hx, List.range_succ, List.map_append]; rfl
theorem ne_range {α : Type} (d : α) (f : Nat → α) (l : List α) (i : Nat) (hi : i < l.length) (hx : getA d l i ≠ f i) : l ≠ (List.range l.length).map f := by
  intro h
  apply hx
  rw [getA_lt d l i hi]
  rw [List.getElem_of_eq h hi]; simp











end Go.Vx
