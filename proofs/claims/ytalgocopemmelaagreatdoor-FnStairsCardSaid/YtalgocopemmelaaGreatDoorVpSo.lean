/- Sorted lists of fractions without repeats: putting in one by one, and sorting and leaving out repeats, give the same list. -/
import Derived.Test.YtalgocopemmelaaGreatDoorVpMap
namespace Go.Vx
open Go
set_option maxRecDepth 100000
set_option linter.unusedSimpArgs false
set_option linter.unusedVariables false

theorem q_inj {a b : Rt} (ha : goodRt a = true) (hb : goodRt b = true) (h : qR a = qR b) : a = b := by
  have h1 : ¬ (a.num * b.den < b.num * a.den) := fun h2 => by rw [q_lt ha hb] at h2; grind
  have h2 : ¬ (b.num * a.den < a.num * b.den) := fun h2 => by rw [q_lt hb ha] at h2; grind
  exact good_eq ha hb (by omega)
theorem less_q {a b : Rt} (ha : goodRt a = true) (hb : goodRt b = true) : lessRt a b = true ↔ qR a < qR b := by
  unfold lessRt; rw [decide_eq_true_eq, q_lt ha hb]
theorem less_q_f {a b : Rt} (ha : goodRt a = true) (hb : goodRt b = true) : lessRt a b = false ↔ qR b ≤ qR a := by
  rw [← Bool.not_eq_true, less_q ha hb]; grind

def SS (l : List Rt) : Prop := l.Pairwise fun a b => qR a < qR b
def Gd (l : List Rt) : Prop := ∀ x ∈ l, goodRt x = true

theorem SS.uniq {l m : List Rt} (h1 : SS l) (h2 : SS m) (h : ∀ x, x ∈ l ↔ x ∈ m) : l = m := by
  have nd : ∀ {l : List Rt}, SS l → l.Nodup := fun h => h.imp fun h e => by subst e; grind
  refine List.Perm.eq_of_pairwise (le := fun a b => qR a < qR b) ?_ h1 h2 ((List.perm_ext_iff_of_nodup (nd h1) (nd h2)).2 h)
  intro a b _ _ h3 h4
  grind

/-- one more, at its place, if it is not there -/
def pvL : List Rt → Rt → List Rt
  | [], x => [x]
  | y :: r, x => bif lessRt y x then y :: pvL r x else bif eqRt y x then y :: r else x :: y :: r
@[irreducible] def putL (l : List Rt) (x : Rt) : List Rt := pvL l x
theorem putL_nil (x : Rt) : putL [] x = [x] := by unfold putL; rfl
theorem putL_cons (y : Rt) (r : List Rt) (x : Rt) : putL (y :: r) x = if lessRt y x = true then y :: putL r x else if y = x then y :: r else x :: y :: r := by
  unfold putL
  rw [pvL]
  cases h : lessRt y x
  · by_cases h2 : y = x <;> simp [h2, eqRt]
  · simp
theorem putL_mem {x z : Rt} : ∀ {l : List Rt}, z ∈ putL l x ↔ z ∈ l ∨ z = x
  | [] => by rw [putL_nil]; simp
  | y :: r => by
    rw [putL_cons]
    split
    · simp only [List.mem_cons, putL_mem (l := r)]; grind
    · split
      · simp only [List.mem_cons]; grind
      · simp only [List.mem_cons]; grind
theorem putL_good {l : List Rt} {x : Rt} (h : Gd l) (hx : goodRt x = true) : Gd (putL l x) := fun z hz => by
  rcases putL_mem.1 hz with h1 | h1
  · exact h z h1
  · rw [h1]; exact hx
theorem putL_ss {x : Rt} (hx : goodRt x = true) : ∀ {l : List Rt}, Gd l → SS l → SS (putL l x)
  | [], _, _ => by rw [putL_nil]; exact List.pairwise_singleton ..
  | y :: r, hg, hs => by
    have hy := hg y (by simp)
    have hs' := List.pairwise_cons.1 hs
    rw [putL_cons]
    split
    · rename_i h
      rw [less_q hy hx] at h
      refine List.pairwise_cons.2 ⟨fun z hz => ?_, putL_ss hx (fun z hz => hg z (by simp [hz])) hs'.2⟩
      rcases putL_mem.1 hz with h1 | h1
      · exact hs'.1 z h1
      · rw [h1]; exact h
    · rename_i h
      rw [Bool.not_eq_true, less_q_f hy hx] at h
      split
      · exact hs
      · rename_i h3
        have h4 : qR x < qR y := by
          have : qR x ≠ qR y := fun e => h3 (q_inj hy hx e.symm)
          grind
        refine List.pairwise_cons.2 ⟨fun z hz => ?_, hs⟩
        rcases List.mem_cons.1 hz with rfl | h5
        · exact h4
        · have := hs'.1 z h5; grind
theorem putL_len (x : Rt) : ∀ (l : List Rt), (putL l x).length ≤ l.length + 1
  | [] => by rw [putL_nil]; simp
  | y :: r => by
    rw [putL_cons]
    split
    · have := putL_len x r; simp; omega
    · split <;> simp

/-- all put in, one by one -/
@[irreducible] def putsL (l m : List Rt) : List Rt := m.foldl putL l
theorem putsL_nil (l : List Rt) : putsL l [] = l := by unfold putsL; rfl
theorem putsL_cons (l : List Rt) (x : Rt) (r : List Rt) : putsL l (x :: r) = putsL (putL l x) r := by unfold putsL; rfl
theorem putsL_mem {z : Rt} : ∀ {m l : List Rt}, z ∈ putsL l m ↔ z ∈ l ∨ z ∈ m
  | [], l => by rw [putsL_nil]; simp
  | x :: r, l => by
    rw [putsL_cons, putsL_mem, putL_mem]
    simp only [List.mem_cons]; grind
theorem putsL_good : ∀ {m l : List Rt}, Gd l → Gd m → Gd (putsL l m)
  | [], l, h, _ => by rw [putsL_nil]; exact h
  | x :: r, l, h, h2 => by
    rw [putsL_cons]
    exact putsL_good (m := r) (putL_good h (h2 x (by simp))) fun z hz => h2 z (by simp [hz])
theorem putsL_ss : ∀ {m l : List Rt}, Gd l → Gd m → SS l → SS (putsL l m)
  | [], l, _, _, h => by rw [putsL_nil]; exact h
  | x :: r, l, h, h2, h3 => by
    rw [putsL_cons]
    exact putsL_ss (m := r) (putL_good h (h2 x (by simp))) (fun z hz => h2 z (by simp [hz])) (putL_ss (h2 x (by simp)) h h3)
theorem putsL_len : ∀ (m l : List Rt), (putsL l m).length ≤ l.length + m.length
  | [], l => by rw [putsL_nil]; simp
  | x :: r, l => by
    have h1 := putsL_len r (putL l x)
    have h2 := putL_len x l
    rw [putsL_cons, List.length_cons]; omega
theorem putsL_append (l m n : List Rt) : putsL l (m ++ n) = putsL (putsL l m) n := by unfold putsL; rw [List.foldl_append]
theorem putsL_one' (l m : List Rt) (x : Rt) : putsL l (m ++ [x]) = putL (putsL l m) x := by rw [putsL_append, putsL_cons, putsL_nil]
theorem Gd.nil : Gd [] := fun _ h => by cases h
theorem SS.nil : SS [] := List.Pairwise.nil

/-- the elements that are kept among the first m: those that are not like the one before -/
@[irreducible] def kpL (l : List Rt) (m : Nat) : List Rt := ((List.range m).filter fun j => decide (j = 0 ∨ getA zR l j ≠ getA zR l (j - 1))).map (getA zR l)
theorem kpL_zero (l : List Rt) : kpL l 0 = [] := by unfold kpL; rfl
theorem kpL_step (l : List Rt) (m : Nat) : kpL l (m + 1) = if m = 0 ∨ getA zR l m ≠ getA zR l (m - 1) then kpL l m ++ [getA zR l m] else kpL l m := by
  unfold kpL
  rw [List.range_succ, List.filter_append, List.map_append]
  by_cases h : m = 0 ∨ getA zR l m ≠ getA zR l (m - 1)
  · rw [if_pos h]; simp [List.filter, h]
  · rw [if_neg h]; simp [List.filter, h]
theorem kpL_t {l : List Rt} {m : Nat} (h : m = 0 ∨ getA zR l m ≠ getA zR l (m - 1)) : kpL l (m + 1) = kpL l m ++ [getA zR l m] := by rw [kpL_step, if_pos h]
theorem kpL_f {l : List Rt} {m : Nat} (h0 : 0 < m) (h : getA zR l m = getA zR l (m - 1)) : kpL l (m + 1) = kpL l m := by
  rw [kpL_step, if_neg]
  rintro (h1 | h1)
  · omega
  · exact h1 h
theorem kpL_len (l : List Rt) : ∀ m, (kpL l m).length ≤ m
  | 0 => by rw [kpL_zero]; simp
  | m + 1 => by
    have := kpL_len l m
    rw [kpL_step]; split
    · simp; omega
    · omega
theorem kpL_pos (l : List Rt) : ∀ m, 0 < m → 0 < (kpL l m).length
  | 0, h => by omega
  | 1, _ => by rw [kpL_t (.inl rfl)]; simp
  | m + 2, _ => by
    have := kpL_pos l (m + 1) (by omega)
    rw [kpL_step]; split
    · simp
    · exact this
theorem take_next {α : Type} (d : α) {l : List α} {i : Nat} (h : i < l.length) : l.take (i + 1) = l.take i ++ [getA d l i] := by
  rw [getA_eq, List.take_add_one]; simp [List.getD, h]
theorem kpL_all {l : List Rt} : ∀ {m : Nat}, m ≤ l.length → (∀ j, 0 < j → j < m → getA zR l j ≠ getA zR l (j - 1)) → kpL l m = l.take m
  | 0, _, _ => by rw [kpL_zero]; simp
  | m + 1, h, h2 => by
    rw [kpL_t, kpL_all (by omega) (fun j h3 h4 => h2 j h3 (by omega)), take_next zR (by omega)]
    by_cases h3 : m = 0
    · exact .inl h3
    · exact .inr (h2 m (by omega) (by omega))
/-- the last one of those that are kept is the last one -/
theorem kpL_last {l : List Rt} : ∀ {m : Nat}, 0 < m → (kpL l m).getLast? = some (getA zR l (m - 1))
  | 0, h => by omega
  | 1, _ => by rw [kpL_t (.inl rfl), kpL_zero]; rfl
  | m + 2, _ => by
    rw [kpL_step]; split
    · simp
    · rename_i h
      rw [kpL_last (by omega)]
      have : getA zR l (m + 1) = getA zR l (m + 1 - 1) := by
        by_cases h1 : getA zR l (m + 1) = getA zR l (m + 1 - 1)
        · exact h1
        · exact (h (.inr h1)).elim
      rw [show m + 2 - 1 = m + 1 by omega, this]
theorem kpL_mem {l : List Rt} : ∀ {m : Nat} {x : Rt}, x ∈ kpL l m ↔ ∃ j, j < m ∧ getA zR l j = x
  | 0, x => by rw [kpL_zero]; simp
  | m + 1, x => by
    rw [kpL_step]
    constructor
    · intro h
      split at h
      · rcases List.mem_append.1 h with h | h
        · obtain ⟨j, h1, h2⟩ := kpL_mem.1 h
          exact ⟨j, by omega, h2⟩
        · exact ⟨m, by omega, by simpa using (List.mem_singleton.1 h).symm⟩
      · obtain ⟨j, h1, h2⟩ := kpL_mem.1 h
        exact ⟨j, by omega, h2⟩
    · rintro ⟨j, h1, h2⟩
      by_cases hj : j < m
      · have := kpL_mem.2 ⟨j, hj, h2⟩
        split
        · exact List.mem_append.2 (.inl this)
        · exact this
      · have : j = m := by omega
        subst this
        split
        · exact List.mem_append.2 (.inr (by simp [h2]))
        · rename_i h
          have h0 : 0 < j := by
            rcases Nat.eq_zero_or_pos j with h0 | h0
            · exact (h (.inl h0)).elim
            · exact h0
          have h3 : getA zR l j = getA zR l (j - 1) := by
            by_cases h1 : getA zR l j = getA zR l (j - 1)
            · exact h1
            · exact (h (.inr h1)).elim
          exact kpL_mem.2 ⟨j - 1, by omega, by rw [← h3]; exact h2⟩
theorem kpL_ss {l : List Rt} (hg : Gd l) (hs : ∀ i, i + 1 < l.length → qR (getA zR l i) ≤ qR (getA zR l (i + 1))) : ∀ {m : Nat}, m ≤ l.length → SS (kpL l m) ∧ ∀ x ∈ kpL l m, ∀ h : 0 < m, qR x ≤ qR (getA zR l (m - 1))
  | 0, _ => by rw [kpL_zero]; exact ⟨SS.nil, fun _ h => by cases h⟩
  | m + 1, h => by
    obtain ⟨h1, h2⟩ := kpL_ss hg hs (m := m) (by omega)
    rw [kpL_step]
    split
    · rename_i h3
      have lt : ∀ x ∈ kpL l m, qR x < qR (getA zR l m) := by
        intro x hx
        have hm : 0 < m := by
          rcases Nat.eq_zero_or_pos m with h0 | h0
          · subst h0; rw [kpL_zero] at hx; cases hx
          · exact h0
        have h4 := h2 x hx hm
        have h5 := hs (m - 1) (by omega)
        rw [show m - 1 + 1 = m by omega] at h5
        have h6 : getA zR l m ≠ getA zR l (m - 1) := by
          rcases h3 with h3 | h3
          · omega
          · exact h3
        have h7 : qR (getA zR l (m - 1)) ≠ qR (getA zR l m) := fun e => h6 (q_inj (hg _ (getA_mem _ (by omega))) (hg _ (getA_mem _ (by omega))) e.symm)
        grind
      refine ⟨List.pairwise_append.2 ⟨h1, List.pairwise_singleton .., fun a ha b hb => ?_⟩, fun x hx _ => ?_⟩
      · rw [List.mem_singleton.1 hb]; exact lt a ha
      · rw [show m + 1 - 1 = m by omega]
        rcases List.mem_append.1 hx with hx | hx
        · have := lt x hx; grind
        · rw [List.mem_singleton.1 hx]; grind
    · rename_i h3
      refine ⟨h1, fun x hx _ => ?_⟩
      have hm : 0 < m := by
        rcases Nat.eq_zero_or_pos m with h0 | h0
        · exact (h3 (.inl h0)).elim
        · exact h0
      have h4 := h2 x hx hm
      have h5 := hs (m - 1) (by omega)
      rw [show m - 1 + 1 = m by omega] at h5
      rw [show m + 1 - 1 = m by omega]
      grind
/-- sorting and leaving out repeats: the same as putting in one by one -/
theorem kpL_puts {l m : List Rt} (hg : Gd l) (hs : ∀ i, i + 1 < l.length → qR (getA zR l i) ≤ qR (getA zR l (i + 1))) (hp : l.Perm m) : kpL l l.length = putsL [] m := by
  have hgm : Gd m := fun x hx => hg x (hp.mem_iff.2 hx)
  refine SS.uniq (kpL_ss hg hs (Nat.le_refl _)).1 (putsL_ss Gd.nil hgm SS.nil) fun x => ?_
  rw [kpL_mem, putsL_mem]
  constructor
  · rintro ⟨j, h1, h2⟩
    exact .inr (hp.mem_iff.1 (by rw [← h2]; exact getA_mem _ h1))
  · rintro (h | h)
    · cases h
    · obtain ⟨j, h1, h2⟩ := List.getElem_of_mem (hp.mem_iff.2 h)
      exact ⟨j, h1, by rw [getA_eq]; simp [List.getD, h1, h2]⟩
end Go.Vx
