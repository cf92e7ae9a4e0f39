/- Stairs: plain facts about steps, the greatest count and sorted lists. -/
import Derived.Test.YtalgocopemmelaaGreatDoorVxL
import Derived.Test.YtalgocopemmelaaGreatDoorVxF
namespace Go.Vx
open Go
set_option maxRecDepth 100000
set_option linter.unusedSimpArgs false
set_option linter.unusedVariables false

theorem set_app_last {α : Type} (c : List α) (a b : α) : (c ++ [a]).set c.length b = c ++ [b] := by
  rw [List.set_append_right _ _ (Nat.le_refl _), Nat.sub_self]; rfl
theorem getA_app_last {α : Type} (d : α) (c : List α) (a : α) : getA d (c ++ [a]) c.length = a := by
  rw [getA_lt _ _ _ (by simp)]; simp

abbrev zR : Rt := ⟨0, 0⟩
def stF (s : List Rt × List Int) (x : Rt) : List Rt × List Int :=
  if 0 < s.1.length ∧ getA zR s.1 (s.1.length - 1) = x then (s.1, s.2.set (s.2.length - 1) (getA 0 s.2 (s.2.length - 1) + 1))
  else (s.1 ++ [x], s.2 ++ [1])
def stL (l : List Rt) (i : Nat) : List Rt × List Int := (l.take i).foldl stF ([], [])
theorem stL_succ {l : List Rt} {i : Nat} (h : i < l.length) : stL l (i + 1) = stF (stL l i) (getA zR l i) := by
  unfold stL
  rw [List.take_add_one, List.foldl_append, List.getElem?_eq_getElem h, getA_lt _ _ _ h]
  rfl
/-- what holds after i elements -/
def StI (l : List Rt) (i : Nat) (s : List Rt × List Int) : Prop :=
  s.1.length = s.2.length ∧ s.1.length ≤ i ∧ (0 < i → 0 < s.1.length ∧ getA zR s.1 (s.1.length - 1) = getA zR l (i - 1)) ∧ ∀ x ∈ s.2, 1 ≤ x ∧ x ≤ i
theorem stF_inv {l : List Rt} {i : Nat} {s : List Rt × List Int} (h : StI l i s) : StI l (i + 1) (stF s (getA zR l i)) := by
  obtain ⟨h1, h2, h3, h4⟩ := h
  unfold stF
  split
  · rename_i h5
    refine ⟨by simpa using h1, by simpa using (by omega : s.1.length ≤ i + 1), fun _ => ⟨h5.1, ?_⟩, ?_⟩
    · simpa using h5.2
    · intro x hx
      rcases List.mem_or_eq_of_mem_set hx with hx | rfl
      · have := h4 x hx; omega
      · have := h4 _ (getA_mem 0 (l := s.2) (i := s.2.length - 1) (by omega)); omega
  · refine ⟨by simp [h1], by simp; omega, fun _ => ⟨by simp, ?_⟩, ?_⟩
    · simp only [List.length_append, List.length_singleton, Nat.add_sub_cancel]
      rw [getA_app_last]
    · intro x hx
      rcases List.mem_append.1 hx with hx | hx
      · have := h4 x hx; omega
      · simp at hx; omega
theorem stL_inv (l : List Rt) : ∀ (i : Nat), i ≤ l.length → StI l i (stL l i)
  | 0, _ => ⟨rfl, Nat.le_refl _, fun h => by omega, fun x hx => by cases hx⟩
  | i + 1, h => by rw [stL_succ (by omega)]; exact stF_inv (stL_inv l i (by omega))
theorem stF_hit {s : List Rt × List Int} {x : Rt} (h : 0 < s.1.length) (h2 : getA zR s.1 (s.1.length - 1) = x) : stF s x = (s.1, s.2.set (s.2.length - 1) (getA 0 s.2 (s.2.length - 1) + 1)) := by
  unfold stF; rw [if_pos ⟨h, h2⟩]
theorem stF_miss {s : List Rt × List Int} {x : Rt} (h2 : 0 < s.1.length → getA zR s.1 (s.1.length - 1) ≠ x) : stF s x = (s.1 ++ [x], s.2 ++ [1]) := by
  unfold stF; rw [if_neg (fun h => h2 h.1 h.2)]

def maxF (m x : Int) : Int := if m < x then x else m
def maxL (l : List Int) : Int := (l.drop 1).foldl maxF (getA (0 : Int) l 0)
/-- the first of the greatest numbers, as a loop finds it -/
def bestF (l : List Int) : Nat → Nat
  | 0 => 0
  | i + 1 => if getA (0 : Int) l (bestF l i) < getA (0 : Int) l i then i else bestF l i
theorem bestF_spec (l : List Int) : ∀ (i : Nat), 0 < i → i ≤ l.length → bestF l i < i ∧ (∀ j, j < i → getA (0 : Int) l j ≤ getA (0 : Int) l (bestF l i)) ∧ (∀ j, j < bestF l i → getA (0 : Int) l j < getA (0 : Int) l (bestF l i))
  | 1, _, _ => by
    have : bestF l 1 = 0 := by unfold bestF; rw [if_neg]; · rfl
                               · intro h; exact absurd h (by simp [bestF])
    rw [this]
    exact ⟨by omega, fun j hj => by rw [show j = 0 by omega]; exact Int.le_refl _, fun j hj => by omega⟩
  | i + 2, _, h => by
    obtain ⟨h1, h2, h3⟩ := bestF_spec l (i + 1) (by omega) (by omega)
    show bestF l (i + 1 + 1) < _ ∧ (∀ j, j < _ → _ ≤ getA (0 : Int) l (bestF l (i + 1 + 1))) ∧ (∀ j, j < bestF l (i + 1 + 1) → _ < getA (0 : Int) l (bestF l (i + 1 + 1)))
    rw [show bestF l (i + 1 + 1) = if getA (0 : Int) l (bestF l (i + 1)) < getA (0 : Int) l (i + 1) then i + 1 else bestF l (i + 1) from rfl]
    split
    · rename_i h4
      refine ⟨by omega, fun j hj => ?_, fun j hj => ?_⟩
      · rcases Nat.lt_or_ge j (i + 1) with h5 | h5
        · have := h2 j h5; omega
        · rw [show j = i + 1 by omega]; exact Int.le_refl _
      · have := h2 j hj; omega
    · rename_i h4
      refine ⟨by omega, fun j hj => ?_, h3⟩
      rcases Nat.lt_or_ge j (i + 1) with h5 | h5
      · exact h2 j h5
      · rw [show j = i + 1 by omega]; omega
theorem foldl_max_le : ∀ (l : List Int) (m : Int), m ≤ l.foldl maxF m ∧ (∀ x ∈ l, x ≤ l.foldl maxF m) ∧ (l.foldl maxF m = m ∨ l.foldl maxF m ∈ l)
  | [], m => ⟨Int.le_refl _, (fun x hx => by cases hx), .inl rfl⟩
  | a :: r, m => by
    obtain ⟨h1, h2, h3⟩ := foldl_max_le r (maxF m a)
    rw [List.foldl_cons]
    have h4 : m ≤ maxF m a ∧ a ≤ maxF m a ∧ (maxF m a = m ∨ maxF m a = a) := by unfold maxF; split <;> omega
    refine ⟨by omega, fun x hx => ?_, ?_⟩
    · rcases List.mem_cons.1 hx with rfl | hx
      · omega
      · exact h2 x hx
    · rcases h3 with h3 | h3
      · rcases h4.2.2 with h5 | h5
        · exact .inl (h3.trans h5)
        · exact .inr (by rw [h3, h5]; simp)
      · exact .inr (List.mem_cons_of_mem _ h3)
theorem maxL_best {l : List Int} (h : 0 < l.length) : maxL l = getA (0 : Int) l (bestF l l.length) := by
  obtain ⟨h1, h2, h3⟩ := bestF_spec l l.length h (Nat.le_refl _)
  match l, h with
  | a :: r, _ =>
    obtain ⟨g1, g2, g3⟩ := foldl_max_le r a
    have e : maxL (a :: r) = r.foldl maxF a := rfl
    rw [e]
    apply Int.le_antisymm
    · have : ∃ j, j < (a :: r).length ∧ getA (0 : Int) (a :: r) j = r.foldl maxF a := by
        have hm : r.foldl maxF a ∈ a :: r := by
          rcases g3 with g3 | g3
          · rw [g3]; simp
          · exact List.mem_cons_of_mem _ g3
        obtain ⟨j, hj, he⟩ := List.mem_iff_getElem.1 hm
        exact ⟨j, hj, by rw [getA_lt _ _ _ hj, he]⟩
      obtain ⟨j, hj, he⟩ := this
      rw [← he]; exact h2 j hj
    · have hm : getA (0 : Int) (a :: r) (bestF (a :: r) (a :: r).length) ∈ a :: r := getA_mem _ h1
      rcases List.mem_cons.1 hm with hm | hm
      · rw [hm]; exact g1
      · exact g2 _ hm
theorem idx_best {l : List Int} (h : 0 < l.length) : idxF (fun y => maxL l == y) l = (bestF l l.length : Nat) := by
  obtain ⟨h1, h2, h3⟩ := bestF_spec l l.length h (Nat.le_refl _)
  have e := maxL_best h
  refine idxF_hit (0 : Int) h1 ?_ (by rw [e]; simp)
  rw [List.any_eq_false]
  intro x hx
  obtain ⟨j, hj, he⟩ := List.mem_take_iff_getElem.1 hx
  have := h3 j (by omega)
  rw [getA_lt _ _ _ (by omega), he] at this
  rw [e]; simp; omega

/-- a list with each number at least the one before -/
def sortF {α : Type} (d : α) (c : α → α → Int) (l : List α) : Bool := (List.range (l.length - 1)).all fun i => !decide (c (getA d l (i + 1)) (getA d l i) < 0)
theorem sortF_iff {α : Type} {d : α} {c : α → α → Int} {l : List α} : sortF d c l = true ↔ ∀ i, i + 1 < l.length → ¬ c (getA d l (i + 1)) (getA d l i) < 0 := by
  unfold sortF
  rw [List.all_eq_true]
  constructor
  · intro h i hi
    have := h i (List.mem_range.2 (by omega))
    simpa using this
  · intro h i hi
    have := h i (by have := List.mem_range.1 hi; omega)
    simpa using this
theorem sgn_negI (n : Int) : sgn (-n) = - sgn n := by
  unfold sgn
  rcases Int.lt_trichotomy n 0 with h | h | h
  · rw [if_neg (by omega), if_pos (by omega), if_pos h]; rfl
  · subst h; rfl
  · rw [if_pos (by omega), if_neg (by omega), if_pos h]
theorem cmpRt_swap (a b : Rt) : cmpRt b a = - cmpRt a b := by
  unfold cmpRt; rw [← sgn_negI, Int.neg_sub]
@[irreducible] def grR (a b : Rt) : Rt := if a.num * b.den < b.num * a.den then b else a
def mergeR (a b : List Rt) (i : Nat) : List Rt := (List.range i).map fun k => grR (getA zR a k) (getA zR b k)
theorem mergeR_length (a b : List Rt) (i : Nat) : (mergeR a b i).length = i := by simp [mergeR]
theorem mergeR_succ (a b : List Rt) (i : Nat) : mergeR a b i ++ [grR (getA zR a i) (getA zR b i)] = mergeR a b (i + 1) := by
  unfold mergeR; rw [List.range_succ, List.map_append]; rfl
theorem cmpRt_neg {a b : Rt} : cmpRt a b < 0 ↔ a.num * b.den < b.num * a.den := by
  unfold cmpRt sgn; split <;> (try split) <;> omega
end Go.Vx
