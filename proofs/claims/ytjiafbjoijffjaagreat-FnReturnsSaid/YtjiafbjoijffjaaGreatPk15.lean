/- Intervals: the program's functions and the reference's. -/
import Derived.Test.YtjiafbjoijffjaaGreatPk14
import Derived.Test.YtjiafbjoijffjaaGreatPk13
namespace Go.Vx
open Go
set_option maxRecDepth 100000
set_option linter.unusedSimpArgs false
set_option linter.unusedVariables false

theorem q_inj {a b : Rt} (ha : goodRt a = true) (hb : goodRt b = true) (h : qR a = qR b) : a = b := by
  have h1 : ¬ (a.num * b.den < b.num * a.den) := fun h2 => by rw [q_lt ha hb] at h2; grind
  have h2 : ¬ (b.num * a.den < a.num * b.den) := fun h2 => by rw [q_lt hb ha] at h2; grind
  exact good_eq ha hb (by omega)
theorem less_q {a b : Rt} (ha : goodRt a = true) (hb : goodRt b = true) : lessRt a b = true ↔ qR a < qR b := by
  unfold lessRt; rw [decide_eq_true_eq, q_lt ha hb]
theorem less_q_f {a b : Rt} (ha : goodRt a = true) (hb : goodRt b = true) : lessRt a b = false ↔ qR b ≤ qR a := by
  rw [← Bool.not_eq_true, less_q ha hb]; grind

def SS (l : List Rt) : Prop := l.Pairwise fun a b => qR a < qR b
def Gd (l : List Rt) : Prop := ∀ x ∈ l, goodRt x = true

theorem SS.uniq {l m : List Rt} (h1 : SS l) (h2 : SS m) (h : ∀ x, x ∈ l ↔ x ∈ m) : l = m := by
  have nd : ∀ {l : List Rt}, SS l → l.Nodup := fun h => h.imp fun h e => by subst e; grind
  refine List.Perm.eq_of_pairwise (le := fun a b => qR a < qR b) ?_ h1 h2 ((List.perm_ext_iff_of_nodup (nd h1) (nd h2)).2 h)
  intro a b _ _ h3 h4
  grind

/-- one more, at its place, if it is not there -/
def pvL : List Rt → Rt → List Rt
  | [], x => [x]
  | y :: r, x => bif lessRt y x then y :: pvL r x else bif eqRt y x then y :: r else x :: y :: r
@[irreducible] def putL (l : List Rt) (x : Rt) : List Rt := pvL l x
theorem putL_nil (x : Rt) : putL [] x = [x] := by unfold putL; rfl
theorem putL_cons (y : Rt) (r : List Rt) (x : Rt) : putL (y :: r) x = if lessRt y x = true then y :: putL r x else if y = x then y :: r else x :: y :: r := by
  unfold putL
  rw [pvL]
  cases h : lessRt y x
  · by_cases h2 : y = x <;> simp [h2, eqRt]
  · simp
theorem putL_mem {x z : Rt} : ∀ {l : List Rt}, z ∈ putL l x ↔ z ∈ l ∨ z = x
  | [] => by rw [putL_nil]; simp
  | y :: r => by
    rw [putL_cons]
    split
    · simp only [List.mem_cons, putL_mem (l := r)]; grind
    · split
      · simp only [List.mem_cons]; grind
      · simp only [List.mem_cons]; grind
theorem putL_good {l : List Rt} {x : Rt} (h : Gd l) (hx : goodRt x = true) : Gd (putL l x) := fun z hz => by
  rcases putL_mem.1 hz with h1 | h1
  · exact h z h1
  · rw [h1]; exact hx
theorem putL_ss {x : Rt} (hx : goodRt x = true) : ∀ {l : List Rt}, Gd l → SS l → SS (putL l x)
  | [], _, _ => by rw [putL_nil]; exact List.pairwise_singleton ..
  | y :: r, hg, hs => by
    have hy := hg y (by simp)
    have hs' := List.pairwise_cons.1 hs
    rw [putL_cons]
    split
    · rename_i h
      rw [less_q hy hx] at h
      refine List.pairwise_cons.2 ⟨fun z hz => ?_, putL_ss hx (fun z hz => hg z (by simp [hz])) hs'.2⟩
      rcases putL_mem.1 hz with h1 | h1
      · exact hs'.1 z h1
      · rw [h1]; exact h
    · rename_i h
      rw [Bool.not_eq_true, less_q_f hy hx] at h
      split
      · exact hs
      · rename_i h3
        have h4 : qR x < qR y := by
          have : qR x ≠ qR y := fun e => h3 (q_inj hy hx e.symm)
          grind
        refine List.pairwise_cons.2 ⟨fun z hz => ?_, hs⟩
        rcases List.mem_cons.1 hz with rfl | h5
        · exact h4
        · have := hs'.1 z h5; grind
theorem putL_len (x : Rt) : ∀ (l : List Rt), (putL l x).length ≤ l.length + 1
  | [] => by rw [putL_nil]; simp
  | y :: r => by
    rw [putL_cons]
    split
    · have := putL_len x r; simp; omega
    · split <;> simp

/-- all put in, one by one -/
@[irreducible] def putsL (l m : List Rt) : List Rt := m.foldl putL l
theorem putsL_nil (l : List Rt) : putsL l [] = l := by unfold putsL; rfl
theorem putsL_cons (l : List Rt) (x : Rt) (r : List Rt) : putsL l (x :: r) = putsL (putL l x) r := by unfold putsL; rfl
theorem putsL_mem {z : Rt} : ∀ {m l : List Rt}, z ∈ putsL l m ↔ z ∈ l ∨ z ∈ m
  | [], l => by rw [putsL_nil]; simp
  | x :: r, l => by
    rw [putsL_cons, putsL_mem, putL_mem]
    simp only [List.mem_cons]; grind
theorem putsL_good : ∀ {m l : List Rt}, Gd l → Gd m → Gd (putsL l m)
  | [], l, h, _ => by rw [putsL_nil]; exact h
  | x :: r, l, h, h2 => by
    rw [putsL_cons]
    exact putsL_good (m := r) (putL_good h (h2 x (by simp))) fun z hz => h2 z (by simp [hz])
theorem putsL_ss : ∀ {m l : List Rt}, Gd l → Gd m → SS l → SS (putsL l m)
  | [], l, _, _, h => by rw [putsL_nil]; exact h
  | x :: r, l, h, h2, h3 => by
    rw [putsL_cons]
    exact putsL_ss (m := r) (putL_good h (h2 x (by simp))) (fun z hz => h2 z (by simp [hz])) (putL_ss (h2 x (by simp)) h h3)
theorem putsL_len : ∀ (m l : List Rt), (putsL l m).length ≤ l.length + m.length
  | [], l => by rw [putsL_nil]; simp
  | x :: r, l => by
    have h1 := putsL_len r (putL l x)
    have h2 := putL_len x l
    rw [putsL_cons, List.length_cons]; omega
theorem putsL_append (l m n : List Rt) : putsL l (m ++ n) = putsL (putsL l m) n := by unfold putsL; rw [List.foldl_append]
theorem putsL_one' (l m : List Rt) (x : Rt) : putsL l (m ++ [x]) = putL (putsL l m) x := by rw [putsL_append, putsL_cons, putsL_nil]
theorem Gd.nil : Gd [] := fun _ h => by cases h
theorem SS.nil : SS [] := List.Pairwise.nil

/-- the elements that are kept among the first m: those that are not like the one before -/
@[irreducible] def kpL (l : List Rt) (m : Nat) : List Rt := ((List.range m).filter fun j => decide (j = 0 ∨ getA zR l j ≠ getA zR l (j - 1))).map (getA zR l)
theorem kpL_zero (l : List Rt) : kpL l 0 = [] := by unfold kpL; rfl
theorem kpL_step (l : List Rt) (m : Nat) : kpL l (m + 1) = if m = 0 ∨ getA zR l m ≠ getA zR l (m - 1) then kpL l m ++ [getA zR l m] else kpL l m := by
  unfold kpL
  rw [List.range_succ, List.filter_append, List.map_append]
  by_cases h : m = 0 ∨ getA zR l m ≠ getA zR l (m - 1)
  · rw [if_pos h]; simp [List.filter, h]
  · rw [if_neg h]; simp [List.filter, h]
theorem kpL_t {l : List Rt} {m : Nat} (h : m = 0 ∨ getA zR l m ≠ getA zR l (m - 1)) : kpL l (m + 1) = kpL l m ++ [getA zR l m] := by rw [kpL_step, if_pos h]
theorem kpL_f {l : List Rt} {m : Nat} (h0 : 0 < m) (h : getA zR l m = getA zR l (m - 1)) : kpL l (m + 1) = kpL l m := by
  rw [kpL_step, if_neg]
  rintro (h1 | h1)
  · omega
  · exact h1 h
theorem kpL_len (l : List Rt) : ∀ m, (kpL l m).length ≤ m
  | 0 => by rw [kpL_zero]; simp
  | m + 1 => by
    have := kpL_len l m
    rw [kpL_step]; split
    · simp; omega
    · omega
theorem kpL_pos (l : List Rt) : ∀ m, 0 < m → 0 < (kpL l m).length
  | 0, h => by omega
  | 1, _ => by rw [kpL_t (.inl rfl)]; simp
  | m + 2, _ => by
    have := kpL_pos l (m + 1) (by omega)
    rw [kpL_step]; split
    · simp
    · exact this
theorem take_next {α : Type} (d : α) {l : List α} {i : Nat} (h : i < l.length) : l.take (i + 1) = l.take i ++ [getA d l i] := by
  rw [getA_eq, List.take_add_one]; simp [List.getD, h]
theorem kpL_all {l : List Rt} : ∀ {m : Nat}, m ≤ l.length → (∀ j, 0 < j → j < m → getA zR l j ≠ getA zR l (j - 1)) → kpL l m = l.take m
  | 0, _, _ => by rw [kpL_zero]; simp
  | m + 1, h, h2 => by
    rw [kpL_t, kpL_all (by omega) (fun j h3 h4 => h2 j h3 (by omega)), take_next zR (by omega)]
    by_cases h3 : m = 0
    · exact .inl h3
    · exact .inr (h2 m (by omega) (by omega))
/-- the last one of those that are kept is the last one -/
theorem kpL_last {l : List Rt} : ∀ {m : Nat}, 0 < m → (kpL l m).getLast? = some (getA zR l (m - 1))
  | 0, h => by omega
  | 1, _ => by rw [kpL_t (.inl rfl), kpL_zero]; rfl
  | m + 2, _ => by
    rw [kpL_step]; split
    · simp
    · rename_i h
      rw [kpL_last (by omega)]
      have : getA zR l (m + 1) = getA zR l (m + 1 - 1) := by
        by_cases h1 : getA zR l (m + 1) = getA zR l (m + 1 - 1)
        · exact h1
        · exact (h (.inr h1)).elim
      rw [show m + 2 - 1 = m + 1 by omega, this]
theorem kpL_mem {l : List Rt} : ∀ {m : Nat} {x : Rt}, x ∈ kpL l m ↔ ∃ j, j < m ∧ getA zR l j = x
  | 0, x => by rw [kpL_zero]; simp
  | m + 1, x => by
    rw [kpL_step]
    constructor
    · intro h
      split at h
      · rcases List.mem_append.1 h with h | h
        · obtain ⟨j, h1, h2⟩ := kpL_mem.1 h
          exact ⟨j, by omega, h2⟩
        · exact ⟨m, by omega, by simpa using (List.mem_singleton.1 h).symm⟩
      · obtain ⟨j, h1, h2⟩ := kpL_mem.1 h
        exact ⟨j, by omega, h2⟩
    · rintro ⟨j, h1, h2⟩
      by_cases hj : j < m
      · have := kpL_mem.2 ⟨j, hj, h2⟩
        split
        · exact List.mem_append.2 (.inl this)
        · exact this
      · have : j = m := by omega
        subst this
        split
        · exact List.mem_append.2 (.inr (by simp [h2]))
        · rename_i h
          have h0 : 0 < j := by
            rcases Nat.eq_zero_or_pos j with h0 | h0
            · exact (h (.inl h0)).elim
            · exact h0
          have h3 : getA zR l j = getA zR l (j - 1) := by
            by_cases h1 : getA zR l j = getA zR l (j - 1)
            · exact h1
            · exact (h (.inr h1)).elim
          exact kpL_mem.2 ⟨j - 1, by omega, by rw [← h3]; exact h2⟩
theorem kpL_ss {l : List Rt} (hg : Gd l) (hs : ∀ i, i + 1 < l.length → qR (getA zR l i) ≤ qR (getA zR l (i + 1))) : ∀ {m : Nat}, m ≤ l.length → SS (kpL l m) ∧ ∀ x ∈ kpL l m, ∀ h : 0 < m, qR x ≤ qR (getA zR l (m - 1))
  | 0, _ => by rw [kpL_zero]; exact ⟨SS.nil, fun _ h => by cases h⟩
  | m + 1, h => by
    obtain ⟨h1, h2⟩ := kpL_ss hg hs (m := m) (by omega)
    rw [kpL_step]
    split
    · rename_i h3
      have lt : ∀ x ∈ kpL l m, qR x < qR (getA zR l m) := by
        intro x hx
        have hm : 0 < m := by
          rcases Nat.eq_zero_or_pos m with h0 | h0
          · subst h0; rw [kpL_zero] at hx; cases hx
          · exact h0
        have h4 := h2 x hx hm
        have h5 := hs (m - 1) (by omega)
        rw [show m - 1 + 1 = m by omega] at h5
        have h6 : getA zR l m ≠ getA zR l (m - 1) := by
          rcases h3 with h3 | h3
          · omega
          · exact h3
        have h7 : qR (getA zR l (m - 1)) ≠ qR (getA zR l m) := fun e => h6 (q_inj (hg _ (getA_mem _ (by omega))) (hg _ (getA_mem _ (by omega))) e.symm)
        grind
      refine ⟨List.pairwise_append.2 ⟨h1, List.pairwise_singleton .., fun a ha b hb => ?_⟩, fun x hx _ => ?_⟩
      · rw [List.mem_singleton.1 hb]; exact lt a ha
      · rw [show m + 1 - 1 = m by omega]
        rcases List.mem_append.1 hx with hx | hx
        · have := lt x hx; grind
        · rw [List.mem_singleton.1 hx]; grind
    · rename_i h3
      refine ⟨h1, fun x hx _ => ?_⟩
      have hm : 0 < m := by
        rcases Nat.eq_zero_or_pos m with h0 | h0
        · exact (h3 (.inl h0)).elim
        · exact h0
      have h4 := h2 x hx hm
      have h5 := hs (m - 1) (by omega)
      rw [show m - 1 + 1 = m by omega] at h5
      rw [show m + 1 - 1 = m by omega]
      grind
/-- sorting and leaving out repeats: the same as putting in one by one -/
theorem kpL_puts {l m : List Rt} (hg : Gd l) (hs : ∀ i, i + 1 < l.length → qR (getA zR l i) ≤ qR (getA zR l (i + 1))) (hp : l.Perm m) : kpL l l.length = putsL [] m := by
  have hgm : Gd m := fun x hx => hg x (hp.mem_iff.2 hx)
  refine SS.uniq (kpL_ss hg hs (Nat.le_refl _)).1 (putsL_ss Gd.nil hgm SS.nil) fun x => ?_
  rw [kpL_mem, putsL_mem]
  constructor
  · rintro ⟨j, h1, h2⟩
    exact .inr (hp.mem_iff.1 (by rw [← h2]; exact getA_mem _ h1))
  · rintro (h | h)
    · cases h
    · obtain ⟨j, h1, h2⟩ := List.getElem_of_mem (hp.mem_iff.2 h)
      exact ⟨j, h1, by rw [getA_eq]; simp [List.getD, h1, h2]⟩
end Go.Vx
namespace Go.Vx
open Go Go.Proofs
set_option maxRecDepth 100000
set_option linter.unusedSimpArgs false
set_option linter.unusedVariables false

theorem getA_app_r {α : Type} (d : α) (l m : List α) (i : Nat) (h : l.length ≤ i) : getA d (l ++ m) i = getA d m (i - l.length) := by
  simp only [getA_eq, List.getD_eq_getElem?_getD, List.getElem?_append_right h]
theorem getA_app_l {α : Type} (d : α) (l m : List α) (i : Nat) (h : i < l.length) : getA d (l ++ m) i = getA d l i := by
  simp only [getA_eq, List.getD_eq_getElem?_getD, List.getElem?_append_left h]
theorem getA_drop' {α : Type} (d : α) (l : List α) (n i : Nat) : getA d (l.drop n) i = getA d l (n + i) := by
  simp only [getA_eq, List.getD_eq_getElem?_getD, List.getElem?_drop]

theorem kp_get {l : List Rt} {n i : Nat} (h : (kpL l n).length ≤ i) : getA zR (kpL l n ++ l.drop (kpL l n).length) i = getA zR l i := by
  rw [getA_app_r _ _ _ _ h, getA_drop', show (kpL l n).length + (i - (kpL l n).length) = i by omega]
theorem kp_set {l : List Rt} {n : Nat} (x : Rt) (h : (kpL l n).length < l.length) : (kpL l n ++ l.drop (kpL l n).length).set (kpL l n).length x = (kpL l n ++ [x]) ++ l.drop ((kpL l n).length + 1) := by
  rw [List.drop_eq_getElem_cons h, List.set_append_right _ _ (Nat.le_refl _), Nat.sub_self, List.set_cons_zero, List.append_assoc]
  rfl
theorem eqRt_t {a b : Rt} (h : eqRt a b = true) : a = b := of_decide_eq_true h
theorem eqRt_f {a b : Rt} (h : eqRt a b = false) : a ≠ b := of_decide_eq_false h
theorem toNat_pred {m : Nat} (h : 1 ≤ m) : ((m : Int) - 1).toNat = m - 1 := by omega

noncomputable def s_lib_CompactRat : Sig := ⟨175, [.own 26 .rat], [.list 26 .rat], fun ((l : List Rt), _) => ⟨[], (kpL l l.length, ()), ()⟩⟩
theorem ok_lib_CompactRat : GSpec Tryz.prog s_lib_CompactRat := by
  refine fn_known tab_ok fol Known.nil (by decide) Tryz.func175 ?_
  rintro ⟨(l : List Rt), ⟨⟩⟩ ⟨hl, _⟩ _
  have hl : l.length ≤ 9223372036854775807 := hl
  repeat' (first | with_reducible apply andAll_cons | with_reducible apply andAll_nil | (with_reducible apply Cf.mk; kernel_rfl) | apply And.intro | intro _ | exact True.intro | apply Lf.mk)
  all_goals (try simp only [Bool.not_eq_true', Bool.not_eq_false', Bool.not_not, decide_eq_true_eq, decide_eq_false_iff_not, beq_iff_eq, bne_iff_ne, beq_eq_false_iff_ne, bne_eq_false_iff_eq, ne_eq, Bool.and_eq_true, Bool.and_eq_false_iff, Bool.or_eq_true, Bool.or_eq_false_iff, Int.toNat_natCast, Nat.zero_add, Int.ofNat_lt, Int.ofNat_le, List.length_cons, List.length_nil, List.drop_zero, List.take_length] at *)
  all_goals first | omega | skip
  · symm
    show kpL l l.length = l
    rw [kpL_all (Nat.le_refl _) (fun j h1 h2 => by omega), List.take_length]
  · rename_i h2
    have h2 : 2 ≤ l.length := by omega
    refine ⟨Nat, fun k => ⟨[(3, .sc (.num .i64 k))], [100000], []⟩, fun k => (1 ≤ k ∧ k ≤ l.length) ∧ ∀ j, 0 < j → j < k → getA zR l j ≠ getA zR l (j - 1), fun k => l.length - k, ⟨1, ⟨⟨by omega, by omega⟩, fun j h1 h2 => by omega⟩, ?_⟩, ?_⟩
    · repeat' (first | apply And.intro | exact True.intro | exact Lf.mk (by with_reducible rfl) | apply Lf.mk)
      all_goals rfl
    · rintro k ⟨⟨g1, g2⟩, g3⟩
      repeat' (first | with_reducible apply andAll_cons | with_reducible apply andAll_nil | (with_reducible apply Cf.mk; kernel_rfl) | apply And.intro | intro _ | exact True.intro | apply Lf.mk)
      all_goals (try simp only [Bool.not_eq_true', Bool.not_eq_false', Bool.not_not, decide_eq_true_eq, decide_eq_false_iff_not, beq_iff_eq, bne_iff_ne, beq_eq_false_iff_ne, bne_eq_false_iff_eq, ne_eq, Bool.and_eq_true, Bool.and_eq_false_iff, Bool.or_eq_true, Bool.or_eq_false_iff, Int.toNat_natCast, Nat.zero_add, Int.ofNat_lt, Int.ofNat_le, List.length_cons, List.length_nil, List.drop_zero, List.take_length] at *)
      all_goals first | omega | skip
      · rename_i h3 h4
        have hk : (k : Int) - 1 = ((k - 1 : Nat) : Int) := by omega
        rw [hk, Int.toNat_natCast] at h3
        have h3 : getA zR l k = getA zR l (k - 1) := of_decide_eq_true h3
        refine ⟨Nat, fun m => ⟨[(5, .sc (.num .i64 m)), (3, .sc (.num .i64 (kpL l (k + m)).length)), (4, .sc (.vw 100000 k (l.length - k)))], [], [(100000, .row 26 .rat (kpL l (k + m) ++ l.drop (kpL l (k + m)).length))]⟩,
          fun m => (1 ≤ m ∧ k + m ≤ l.length) ∧ (kpL l (k + m)).length < k + m, fun m => l.length - m, ⟨1, ⟨⟨by omega, by omega⟩, ?_⟩, ?_⟩, ?_⟩
        · have := kpL_len l k
          rw [kpL_f (by omega) h3]; omega
        · have e : kpL l (k + 1) = l.take k := by rw [kpL_f (by omega) h3, kpL_all (by omega) g3]
          have e2 : (l.take k).length = k := by rw [List.length_take]; omega
          simp only [e, e2, List.take_append_drop]
          repeat' (first | apply And.intro | exact True.intro | exact Lf.mk (by with_reducible rfl) | apply Lf.mk)
          all_goals first | rfl | omega | trace_state
        · rintro m ⟨⟨q1, q2⟩, q3⟩
          have hlen : (kpL l (k + m) ++ l.drop (kpL l (k + m)).length).length = l.length := by rw [List.length_append, List.length_drop]; omega
          repeat' (first | with_reducible apply andAll_cons | with_reducible apply andAll_nil | (with_reducible apply Cf.mk; kernel_rfl) | apply And.intro | intro _ | exact True.intro | apply Lf.mk)
          all_goals (try simp only [Bool.not_eq_true', Bool.not_eq_false', Bool.not_not, decide_eq_true_eq, decide_eq_false_iff_not, beq_iff_eq, bne_iff_ne, beq_eq_false_iff_ne, bne_eq_false_iff_eq, ne_eq, Bool.and_eq_true, Bool.and_eq_false_iff, Bool.or_eq_true, Bool.or_eq_false_iff, Int.toNat_natCast, Nat.zero_add, Int.ofNat_lt, Int.ofNat_le, List.length_cons, List.length_nil, List.drop_zero, List.take_length] at *)
          all_goals first | omega | skip
          · rename_i h5 h6
            rw [toNat_pred q1] at h6
            have h7 := eqRt_f (a := getA zR (kpL l (k + m) ++ l.drop (kpL l (k + m)).length) (k + m)) (b := getA zR (kpL l (k + m) ++ l.drop (kpL l (k + m)).length) (k + (m - 1))) h6
            rw [kp_get (by omega), kp_get (by omega), show k + (m - 1) = k + m - 1 by omega] at h7
            have h8 := kpL_t (l := l) (m := k + m) (.inr h7)
            have h9 : (kpL l (k + (m + 1))).length = (kpL l (k + m)).length + 1 := by rw [← Nat.add_assoc, h8]; simp
            refine ⟨m + 1, ⟨⟨by omega, by omega⟩, by omega⟩, by omega, ?_⟩
            have h10 : (kpL l (k + m) ++ l.drop (kpL l (k + m)).length).set (kpL l (k + m)).length (getA zR (kpL l (k + m) ++ l.drop (kpL l (k + m)).length) (k + m)) = kpL l (k + (m + 1)) ++ l.drop (kpL l (k + (m + 1))).length := by
              rw [kp_set _ (by omega), kp_get (by omega), ← Nat.add_assoc, h8, List.length_append]; rfl
            repeat' (first | apply And.intro | exact True.intro | exact Lf.mk (by with_reducible rfl) | apply Lf.mk)
            all_goals first | rfl | omega | exact h10 | trace_state
          · rename_i h5 h6
            rw [toNat_pred q1] at h6
            have h7 := eqRt_t (a := getA zR (kpL l (k + m) ++ l.drop (kpL l (k + m)).length) (k + m)) (b := getA zR (kpL l (k + m) ++ l.drop (kpL l (k + m)).length) (k + (m - 1))) h6
            rw [kp_get (by omega), kp_get (by omega), show k + (m - 1) = k + m - 1 by omega] at h7
            have h8 := kpL_f (l := l) (m := k + m) (by omega) h7
            refine ⟨m + 1, ⟨⟨by omega, by omega⟩, by rw [← Nat.add_assoc, h8]; omega⟩, by omega, ?_⟩
            rw [← Nat.add_assoc] 
            simp only [← Nat.add_assoc, h8]
            repeat' (first | apply And.intro | exact True.intro | exact Lf.mk (by with_reducible rfl) | apply Lf.mk)
            all_goals first | rfl | omega | trace_state
          · simp only [List.length_append, List.length_take, List.length_replicate, List.length_drop]; omega
          · have := kpL_pos l (k + m) (by omega); first | omega | (simp only [List.length_append, List.length_take, List.length_replicate, List.length_drop]; omega) | trace_state
          · rw [Nat.sub_zero]
            have e : k + m = l.length := by omega
            rw [e] at q3 ⊢
            rw [List.append_assoc, List.take_append_of_le_length (by rw [List.length_take]; simp only [List.length_append, List.length_drop]; omega), List.take_take, Nat.min_self, List.take_left' rfl]
      · rename_i h3 h4
        have hk : (k : Int) - 1 = ((k - 1 : Nat) : Int) := by omega
        rw [hk, Int.toNat_natCast] at h3
        have h3 : getA zR l k ≠ getA zR l (k - 1) := of_decide_eq_false h3
        refine ⟨k + 1, ⟨⟨by omega, by omega⟩, fun j h5 h6 => ?_⟩, by omega, ?_⟩
        · by_cases h7 : j = k
          · rw [h7]; exact h3
          · exact g3 j h5 (by omega)
        · repeat' (first | apply And.intro | exact True.intro | exact Lf.mk (by with_reducible rfl) | apply Lf.mk)
          all_goals first | rfl | omega | trace_state
      · rw [kpL_all (Nat.le_refl _) (fun j h1 h2 => g3 j h1 (by omega)), List.take_length]

theorem putL_at : ∀ {l : List Rt} {k : Nat} {x : Rt}, k ≤ l.length → (∀ j, j < k → lessRt (getA zR l j) x = true) → (k < l.length → lessRt (getA zR l k) x = false) → putL l x = if k < l.length ∧ getA zR l k = x then l else l.take k ++ [x] ++ l.drop k
  | [], k, x, h, _, _ => by
    have : k = 0 := by simpa using h
    subst this
    rw [putL_nil]; simp
  | y :: r, 0, x, _, _, h2 => by
    have h3 : lessRt y x = false := h2 (by simp)
    rw [putL_cons, if_neg (by rw [h3]; exact Bool.false_ne_true)]
    have e : getA zR (y :: r) 0 = y := rfl
    rw [e]
    by_cases h : y = x
    · rw [if_pos h, if_pos ⟨by simp, h⟩]
    · rw [if_neg h, if_neg (fun h2 => h h2.2)]; rfl
  | y :: r, k + 1, x, h, h1, h2 => by
    have h3 : lessRt y x = true := h1 0 (by omega)
    rw [putL_cons, if_pos h3, putL_at (k := k) (by simpa using h) (fun j hj => h1 (j + 1) (by omega)) (fun hj => h2 (by simpa using hj))]
    have e : getA zR (y :: r) (k + 1) = getA zR r k := rfl
    rw [e]
    by_cases h4 : k < r.length ∧ getA zR r k = x
    · rw [if_pos h4, if_pos ⟨by simpa using h4.1, h4.2⟩]
    · rw [if_neg h4, if_neg (fun h5 => h4 ⟨by simpa using h5.1, h5.2⟩)]; simp
noncomputable def s_spec_imPut : Sig := ⟨81, [.own 26 .rat, .val .rat], [.list 26 .rat], fun ((l : List Rt), (x : Rt), _) => ⟨[∀ y ∈ l, goodRt y = true, goodRt x = true, l.length ≤ 100000], (putL l x, ()), ()⟩⟩
theorem ok_spec_imPut : GSpec Tryz.prog s_spec_imPut := by
  refine fn_known tab_ok fol (Known.nil.cons ok_spec_raCmp (by kernel_rfl)) (by decide) Tryz.func81 ?_
  rintro ⟨(l : List Rt), (x : Rt), ⟨⟩⟩ ⟨hl, _⟩ ⟨h1, h2, h3, _⟩
  have hl : l.length ≤ 9223372036854775807 := hl
  refine ⟨Nat, fun k => ⟨[(5, .sc (.num .i64 k))], [100000, 3], []⟩, fun k => k ≤ l.length ∧ ∀ j, j < k → lessRt (getA zR l j) x = true, fun k => l.length - k, ⟨0, ⟨by omega, fun j h1 => by omega⟩, ?_⟩, ?_⟩
  · repeat' (first | apply And.intro | exact True.intro | exact Lf.mk (by with_reducible rfl) | apply Lf.mk)
    all_goals rfl
  · rintro k ⟨g1, g2⟩
    repeat' (first | with_reducible apply andAll_cons | with_reducible apply andAll_nil | (with_reducible apply Cf.mk; kernel_rfl) | apply And.intro | intro _ | exact True.intro | apply Lf.mk)
    all_goals (try simp only [Bool.not_eq_true', Bool.not_eq_false', Bool.not_not, decide_eq_true_eq, decide_eq_false_iff_not, beq_iff_eq, bne_iff_ne, beq_eq_false_iff_ne, bne_eq_false_iff_eq, ne_eq, Bool.and_eq_true, Bool.and_eq_false_iff, Bool.or_eq_true, Bool.or_eq_false_iff, Int.toNat_natCast, Nat.zero_add, Int.ofNat_lt, Int.ofNat_le, List.length_cons, List.length_nil, List.drop_zero, List.take_length] at *)
    all_goals first | omega | exact h2 | exact h1 _ (getA_mem _ (by assumption)) | skip
    all_goals first | (simp only [List.length_append, List.length_take, List.length_drop, List.length_nil, List.length_cons]; show _ * 16 ≤ _; omega) | skip
    · rename_i h4 h5
      rw [decide_eq_true h4, cond_true, cmp_less] at h5
      refine ⟨k + 1, ⟨by omega, fun j hj => ?_⟩, by omega, ?_⟩
      · by_cases h7 : j = k
        · rw [h7]; exact h5
        · exact g2 j (by omega)
      · repeat' (first | apply And.intro | exact True.intro | exact Lf.mk (by with_reducible rfl) | apply Lf.mk)
        all_goals first | rfl | omega | trace_state
    · rename_i h4 h5 h6 h7
      rw [decide_eq_true h4, cond_true, cmp_less] at h5
      rw [decide_eq_true h4, cond_true] at h7
      rw [putL_at g1 g2 (fun _ => h5), if_pos ⟨h4, eqRt_t (a := getA zR l k) (b := x) h7⟩]
    · rename_i h4 h5 h6 h7
      rw [decide_eq_true h4, cond_true, cmp_less] at h5
      rw [decide_eq_true h4, cond_true] at h7
      rw [putL_at g1 g2 (fun _ => h5), if_neg (fun h => eqRt_f (a := getA zR l k) (b := x) h7 h.2), List.nil_append, Nat.sub_zero, List.take_of_length_le (l := l.drop k) (by rw [List.length_drop]; omega)]
    · exact absurd ‹false = true› Bool.false_ne_true
    · exact absurd ‹false = true› Bool.false_ne_true
    · have h7 : ¬ k < l.length := by assumption
      rw [putL_at g1 g2 (fun h => (h7 h).elim), if_neg (fun h => h7 h.1), List.nil_append, Nat.sub_zero, List.take_of_length_le (l := l.drop k) (by rw [List.length_drop]; omega)]

noncomputable def s_lib_IndexRat : Sig := ⟨236, [.list .rat, .val .rat], [.val NI], fun ((l : List Rt), (x : Rt), _) => ⟨[], (idxF (fun y => eqRt x y) l, ()), ()⟩⟩
theorem ok_lib_IndexRat : GSpec Tryz.prog s_lib_IndexRat := by
  refine fn_known tab_ok fol Known.nil (by decide) Tryz.func236 ?_
  rintro ⟨(l : List Rt), (x : Rt), ⟨⟩⟩ ⟨hl, _⟩ _
  have hl : l.length ≤ 9223372036854775807 := hl
  refine ⟨Nat, fun i => ⟨[(8, .sc (.num .i64 i))], [100000, 3], []⟩, fun i => i ≤ l.length ∧ (l.take i).any (fun y => eqRt x y) = false, fun i => l.length - i, ⟨0, ⟨Nat.zero_le _, rfl⟩, ?_⟩, ?_⟩
  · repeat' (first | apply And.intro | exact True.intro | exact Lf.mk (by with_reducible rfl) | apply Lf.mk)
    all_goals rfl
  · rintro i ⟨g1, g2⟩
    repeat' (first | with_reducible apply andAll_cons | with_reducible apply andAll_nil | (with_reducible apply Cf.mk; kernel_rfl) | apply And.intro | intro _ | exact True.intro | apply Lf.mk)
    all_goals (try simp only [Bool.not_eq_true', Bool.not_eq_false', Bool.not_not, decide_eq_true_eq, decide_eq_false_iff_not, beq_iff_eq, bne_iff_ne, beq_eq_false_iff_ne, bne_eq_false_iff_eq, ne_eq, Bool.and_eq_true, Bool.and_eq_false_iff, Bool.or_eq_true, Bool.or_eq_false_iff, Int.toNat_natCast, Nat.zero_add, Int.ofNat_lt, Int.ofNat_le, List.length_cons, List.length_nil, List.drop_zero, List.take_length] at *)
    all_goals first | omega | skip
    · exact (idxF_hit zR (by assumption) g2 (by assumption)).symm
    · refine ⟨i + 1, ⟨by omega, take_all_false zR (by assumption) g2 (by assumption)⟩, by omega, ?_⟩
      repeat' (first | apply And.intro | exact True.intro | exact Lf.mk (by with_reducible rfl) | apply Lf.mk)
      all_goals (rw [Int.natCast_add]; rfl)
    · rename_i h3
      rw [List.take_of_length_le (by omega)] at g2
      exact (idxF_none g2).symm
end Go.Vx
namespace Go.Vx
open Go
set_option maxRecDepth 100000
set_option linter.unusedSimpArgs false
set_option linter.unusedVariables false

@[irreducible] def lsR (a b : Rt) : Rt := if a.num * b.den < b.num * a.den then a else b
theorem grR_or (a b : Rt) : grR a b = a ∨ grR a b = b := by unfold grR; split <;> simp
theorem lsR_or (a b : Rt) : lsR a b = a ∨ lsR a b = b := by unfold lsR; split <;> simp
theorem grR_good {a b : Rt} (ha : goodRt a = true) (hb : goodRt b = true) : goodRt (grR a b) = true := by
  rcases grR_or a b with h | h <;> rw [h] <;> assumption
theorem lsR_good {a b : Rt} (ha : goodRt a = true) (hb : goodRt b = true) : goodRt (lsR a b) = true := by
  rcases lsR_or a b with h | h <;> rw [h] <;> assumption
theorem grR_unit {a b : Rt} (ha : unitRt a = true) (hb : unitRt b = true) : unitRt (grR a b) = true := by
  rcases grR_or a b with h | h <;> rw [h] <;> assumption
theorem lsR_unit {a b : Rt} (ha : unitRt a = true) (hb : unitRt b = true) : unitRt (lsR a b) = true := by
  rcases lsR_or a b with h | h <;> rw [h] <;> assumption
theorem grR_t {a b : Rt} (h : ltR a b) : grR a b = b := by unfold grR; rw [if_pos h]
theorem grR_f {a b : Rt} (h : ¬ ltR a b) : grR a b = a := by unfold grR; rw [if_neg h]
theorem lsR_t {a b : Rt} (h : ltR a b) : lsR a b = a := by unfold lsR; rw [if_pos h]
theorem lsR_f {a b : Rt} (h : ¬ ltR a b) : lsR a b = b := by unfold lsR; rw [if_neg h]
/-- the reference takes the new one only if it is less -/
theorem lsR_alt {a b : Rt} (ha : goodRt a = true) (hb : goodRt b = true) (h : ¬ ltR b a) : lsR a b = a := by
  rcases Int.lt_trichotomy (a.num * b.den) (b.num * a.den) with h1 | h1 | h1
  · exact lsR_t h1
  · rw [good_eq ha hb h1]; rcases lsR_or b b with h | h <;> exact h
  · exact (h h1).elim
theorem lsR_alt2 {a b : Rt} (h : ltR b a) : lsR a b = b := lsR_f (fun h2 => by have h1 : b.num * a.den < a.num * b.den := h; have h3 : a.num * b.den < b.num * a.den := h2; omega)
theorem lt_of_ne {a b : Rt} (ha : goodRt a = true) (hb : goodRt b = true) (h : ¬ ltR b a) (hn : a ≠ b) : ltR a b := by
  rcases Int.lt_trichotomy (a.num * b.den) (b.num * a.den) with h1 | h1 | h1
  · exact h1
  · exact (hn (good_eq ha hb h1)).elim
  · exact (h h1).elim

def imF (s : Rt × Rt) (y : Rt) : Rt × Rt := (lsR s.1 y, grR s.2 y)
def inB' (a b : Rt) (p : Pt) : Bool := lessRt a p.x && lessRt p.x b
def inY (a b : Rt) (l : List Pt) : List Rt := (l.filter (inB' a b)).map Pt.y
noncomputable def imS (f : List Pt) (a b : Rt) : Rt × Rt := imF (vO f a, vO f a) (vO f b)
noncomputable def imI (f : List Pt) (a b : Rt) (i : Nat) : Rt × Rt := (inY a b (f.take i)).foldl imF (imS f a b)
noncomputable def imO (f : List Pt) (a b : Rt) : Rt × Rt := imI f a b f.length
theorem inY_succ {f : List Pt} {a b : Rt} {i : Nat} (h : i < f.length) : inY a b (f.take (i + 1)) = inY a b (f.take i) ++ (if inB' a b (getA zP f i) = true then [(getA zP f i).y] else []) := by
  unfold inY
  rw [List.take_add_one, List.getElem?_eq_getElem h, List.filter_append, List.map_append, ← getA_lt zP f i h]
  congr 1
  split
  · rename_i h1; simp [h1]
  · rename_i h1; simp [h1]
theorem imI_t {f : List Pt} {a b : Rt} {i : Nat} (h : i < f.length) (h1 : inB' a b (getA zP f i) = true) : imI f a b (i + 1) = imF (imI f a b i) (getA zP f i).y := by
  unfold imI; rw [inY_succ h, if_pos h1, List.foldl_append]; rfl
theorem imI_f {f : List Pt} {a b : Rt} {i : Nat} (h : i < f.length) (h1 : ¬ inB' a b (getA zP f i) = true) : imI f a b (i + 1) = imI f a b i := by
  unfold imI; rw [inY_succ h, if_neg h1, List.append_nil]
/-- two fractions from 0 to 1, the first one not the greater -/
def Rg (s : Rt × Rt) : Prop := unitRt s.1 = true ∧ unitRt s.2 = true ∧ ¬ ltR s.2 s.1
theorem imF_rg {s : Rt × Rt} {y : Rt} (h : Rg s) (hy : unitRt y = true) : Rg (imF s y) := by
  obtain ⟨h1, h2, h3⟩ := h
  refine ⟨lsR_unit h1 hy, grR_unit h2 hy, ?_⟩
  unfold imF
  dsimp only
  have q1 := q_lt (unit_good h1) (unit_good hy)
  have q2 := q_lt (unit_good h2) (unit_good hy)
  have q3 := q_lt (unit_good h2) (unit_good h1)
  have q4 := q_lt (unit_good (lsR_unit h1 hy)) (unit_good (grR_unit h2 hy))
  have q5 := q_lt (unit_good (grR_unit h2 hy)) (unit_good (lsR_unit h1 hy))
  intro h5
  have h5 := q5.1 h5
  have h3 : ¬ qR s.2 < qR s.1 := fun h => h3 (q3.2 h)
  by_cases c1 : ltR s.1 y
  · rw [lsR_t c1] at h5
    by_cases c2 : ltR s.2 y
    · rw [grR_t c2] at h5; have := q1.1 c1; grind
    · rw [grR_f c2] at h5; exact h3 h5
  · rw [lsR_f c1] at h5
    by_cases c2 : ltR s.2 y
    · rw [grR_t c2] at h5; grind
    · rw [grR_f c2] at h5
      have c1' : ¬ qR s.1 < qR y := fun h => c1 (q1.2 h)
      grind
theorem rg_refl {y : Rt} (h : unitRt y = true) : Rg (y, y) := ⟨h, h, fun h2 => by have : y.num * y.den < y.num * y.den := h2; omega⟩
theorem imS_rg {f : List Pt} {a b : Rt} (h : mapOk f = true) (ha : unitRt a = true) (hb : unitRt b = true) : Rg (imS f a b) := imF_rg (rg_refl (vO_unit h ha)) (vO_unit h hb)
theorem imI_rg {f : List Pt} {a b : Rt} (h : mapOk f = true) (ha : unitRt a = true) (hb : unitRt b = true) : ∀ (i : Nat), i ≤ f.length → Rg (imI f a b i)
  | 0, _ => imS_rg h ha hb
  | i + 1, hi => by
    by_cases c : inB' a b (getA zP f i) = true
    · rw [imI_t (by omega) c]
      exact imF_rg (imI_rg h ha hb i (by omega)) (coord_unit (ptOk_iff.1 (map_pt h (by omega))).2)
    · rw [imI_f (by omega) c]; exact imI_rg h ha hb i (by omega)
theorem imO_rg {f : List Pt} {a b : Rt} (h : mapOk f = true) (ha : unitRt a = true) (hb : unitRt b = true) : Rg (imO f a b) := imI_rg h ha hb _ (Nat.le_refl _)
noncomputable def imB (f : List Pt) (a b : Rt) : Bool := (vR f a).2 && (vR f b).2
noncomputable def imR (f : List Pt) (a b : Rt) : Rt × Rt := match imB f a b with
  | true => imO f a b
  | false => (⟨0, 0⟩, ⟨0, 0⟩)
theorem imR_t {f : List Pt} {a b : Rt} (h1 : (vR f a).2 = true) (h2 : (vR f b).2 = true) : imR f a b = imO f a b := by unfold imR imB; rw [h1, h2]; rfl
theorem imR_f {f : List Pt} {a b : Rt} (h : imB f a b = false) : imR f a b = (⟨0, 0⟩, ⟨0, 0⟩) := by unfold imR; rw [h]

noncomputable def ivOk (i : Iv) : Bool := unitRt i.a && (unitRt i.b && lessRt i.a i.b)
theorem ivOk_iff {i : Iv} : ivOk i = true ↔ (unitRt i.a = true ∧ unitRt i.b = true ∧ ltR i.a i.b) := by
  unfold ivOk lessRt; simp

/-- images step by step; the last part is 0, 1 if a value is too large, 2 if an image is a single fraction -/
noncomputable def imgs (f : List Pt) (i : Iv) : Nat → List Iv × Iv × Nat
  | 0 => ([i], i, 0)
  | k + 1 => match (imgs f i k).2.2 with
    | 0 => match imB f (imgs f i k).2.1.a (imgs f i k).2.1.b with
      | false => ([], (imgs f i k).2.1, 1)
      | true => match decide ((imO f (imgs f i k).2.1.a (imgs f i k).2.1.b).1 = (imO f (imgs f i k).2.1.a (imgs f i k).2.1.b).2) with
        | true => ([], (imgs f i k).2.1, 2)
        | false => ((imgs f i k).1 ++ [⟨(imO f (imgs f i k).2.1.a (imgs f i k).2.1.b).1, (imO f (imgs f i k).2.1.a (imgs f i k).2.1.b).2⟩], ⟨(imO f (imgs f i k).2.1.a (imgs f i k).2.1.b).1, (imO f (imgs f i k).2.1.a (imgs f i k).2.1.b).2⟩, 0)
    | _ + 1 => imgs f i k
theorem imgs_1 {f : List Pt} {i : Iv} {k : Nat} (h : (imgs f i k).2.2 = 0) (h1 : imB f (imgs f i k).2.1.a (imgs f i k).2.1.b = false) : imgs f i (k + 1) = ([], (imgs f i k).2.1, 1) := by
  rw [imgs, h, h1]
theorem imgs_2 {f : List Pt} {i : Iv} {k : Nat} (h : (imgs f i k).2.2 = 0) (h1 : imB f (imgs f i k).2.1.a (imgs f i k).2.1.b = true) (h2 : (imO f (imgs f i k).2.1.a (imgs f i k).2.1.b).1 = (imO f (imgs f i k).2.1.a (imgs f i k).2.1.b).2) : imgs f i (k + 1) = ([], (imgs f i k).2.1, 2) := by
  rw [imgs, h, h1, decide_eq_true h2]
theorem imgs_0 {f : List Pt} {i : Iv} {k : Nat} (h : (imgs f i k).2.2 = 0) (h1 : imB f (imgs f i k).2.1.a (imgs f i k).2.1.b = true) (h2 : ¬ (imO f (imgs f i k).2.1.a (imgs f i k).2.1.b).1 = (imO f (imgs f i k).2.1.a (imgs f i k).2.1.b).2) : imgs f i (k + 1) = ((imgs f i k).1 ++ [⟨(imO f (imgs f i k).2.1.a (imgs f i k).2.1.b).1, (imO f (imgs f i k).2.1.a (imgs f i k).2.1.b).2⟩], ⟨(imO f (imgs f i k).2.1.a (imgs f i k).2.1.b).1, (imO f (imgs f i k).2.1.a (imgs f i k).2.1.b).2⟩, 0) := by
  rw [imgs, h, h1, decide_eq_false h2]
theorem imgs_stay {f : List Pt} {i : Iv} {k : Nat} (h : (imgs f i k).2.2 ≠ 0) : ∀ {n : Nat}, k ≤ n → imgs f i n = imgs f i k
  | n, hn => by
    induction n with
    | zero => rw [show k = 0 by omega]
    | succ n ih =>
      rcases Nat.lt_or_eq_of_le hn with h1 | h1
      · have e := ih (by omega)
        rw [imgs]
        split
        · rename_i h2; rw [e] at h2; exact (h h2).elim
        · exact e
      · rw [h1]
/-- what holds as long as nothing has gone wrong -/
theorem imgs_inv {f : List Pt} {i : Iv} (h : mapOk f = true) (hi : ivOk i = true) : ∀ (k : Nat), ((imgs f i k).2.2 = 0 → (imgs f i k).1.length = k + 1 ∧ ivOk (imgs f i k).2.1 = true ∧ (∀ j ∈ (imgs f i k).1, ivOk j = true) ∧ getA (VK.dflt .iv) (imgs f i k).1 0 = i) ∧ ((imgs f i k).2.2 ≠ 0 → (imgs f i k).1 = [])
  | 0 => ⟨fun _ => ⟨rfl, hi, fun j hj => by have : j = i := by simpa [imgs] using hj
                                            rw [this]; exact hi, rfl⟩, fun h => (h rfl).elim⟩
  | k + 1 => by
    obtain ⟨i1, i2⟩ := imgs_inv h hi k
    by_cases c0 : (imgs f i k).2.2 = 0
    · obtain ⟨j1, j2, j3, j4⟩ := i1 c0
      cases c1 : imB f (imgs f i k).2.1.a (imgs f i k).2.1.b with
      | false => rw [imgs_1 c0 c1]; exact ⟨(fun h => by cases h), fun _ => rfl⟩
      | true =>
        by_cases c2 : (imO f (imgs f i k).2.1.a (imgs f i k).2.1.b).1 = (imO f (imgs f i k).2.1.a (imgs f i k).2.1.b).2
        · rw [imgs_2 c0 c1 c2]; exact ⟨(fun h => by cases h), fun _ => rfl⟩
        · rw [imgs_0 c0 c1 c2]
          have hv := ivOk_iff.1 j2
          obtain ⟨r1, r2, r3⟩ := imO_rg h hv.1 hv.2.1
          have hn : ivOk ⟨(imO f (imgs f i k).2.1.a (imgs f i k).2.1.b).1, (imO f (imgs f i k).2.1.a (imgs f i k).2.1.b).2⟩ = true := ivOk_iff.2 ⟨r1, r2, lt_of_ne (unit_good r1) (unit_good r2) r3 c2⟩
          refine ⟨fun _ => ⟨by simp [j1], hn, fun j hj => ?_, ?_⟩, fun h => (h rfl).elim⟩
          · rcases List.mem_append.1 hj with hj | hj
            · exact j3 j hj
            · rw [List.mem_singleton.1 hj]; exact hn
          · dsimp only
            rw [getA_lt _ _ _ (by simp), List.getElem_append_left (by omega), ← getA_lt (VK.dflt .iv) _ _ (by omega)]
            exact j4
    · rw [imgs_stay c0 (Nat.le_succ k)]
      exact ⟨fun h0 => (c0 h0).elim, i2⟩
def liesR (i k : Iv) : Bool := !lessRt i.a k.a && !lessRt k.b i.b
def meetR (i k : Iv) : Bool := lessRt (grR i.a k.a) (lsR i.b k.b)
def sepR (i k : Iv) : Bool := !lessRt k.a i.b || !lessRt i.a k.b
theorem meet_sep {i k : Iv} (hi : ivOk i = true) (hk : ivOk k = true) : meetR i k = !sepR i k := by
  obtain ⟨a1, a2, a3⟩ := ivOk_iff.1 hi
  obtain ⟨b1, b2, b3⟩ := ivOk_iff.1 hk
  have g1 := unit_good a1
  have g2 := unit_good a2
  have g3 := unit_good b1
  have g4 := unit_good b2
  have l1 := (q_lt g1 g2).1 a3
  have l2 := (q_lt g3 g4).1 b3
  have e : ∀ {a b : Rt}, goodRt a = true → goodRt b = true → lessRt a b = decide (qR a < qR b) := fun ha hb => by
    unfold lessRt; exact decide_eq_decide.2 (q_lt ha hb)
  unfold meetR sepR
  rw [e (grR_good g1 g3) (lsR_good g2 g4), e g3 g2, e g1 g4]
  by_cases c1 : ltR i.a k.a
  · have := (q_lt g1 g3).1 c1
    rw [grR_t c1]
    by_cases c2 : ltR i.b k.b
    · have := (q_lt g2 g4).1 c2
      rw [lsR_t c2]
      by_cases c3 : qR k.a < qR i.b
      · have : qR i.a < qR k.b := by grind
        simp [c3, this]
      · simp [c3]
    · have c2 : ¬ qR i.b < qR k.b := fun h => c2 ((q_lt g2 g4).2 h)
      rw [lsR_f (fun h => c2 ((q_lt g2 g4).1 h))]
      have h1 : qR k.a < qR k.b := l2
      have h2 : qR k.a < qR i.b := by grind
      have h3 : qR i.a < qR k.b := by grind
      simp [h1, h2, h3]
  · have c1' : ¬ qR i.a < qR k.a := fun h => c1 ((q_lt g1 g3).2 h)
    rw [grR_f c1]
    by_cases c2 : ltR i.b k.b
    · have := (q_lt g2 g4).1 c2
      rw [lsR_t c2]
      have h2 : qR k.a < qR i.b := by grind
      have h3 : qR i.a < qR k.b := by grind
      simp [l1, h2, h3]
    · have c2' : ¬ qR i.b < qR k.b := fun h => c2 ((q_lt g2 g4).2 h)
      rw [lsR_f c2]
      by_cases c3 : qR i.a < qR k.b
      · have : qR k.a < qR i.b := by grind
        simp [c3, this]
      · simp [c3]
end Go.Vx
namespace Go.Vx
open Go Go.Proofs
set_option maxRecDepth 100000
set_option linter.unusedSimpArgs false
set_option linter.unusedVariables false

noncomputable def s_impl_lesser : Sig := ⟨196, [.val .rat, .val .rat], [.val .rat], fun ((a : Rt), (b : Rt), _) => ⟨[goodRt a = true, goodRt b = true], (lsR a b, ()), ()⟩⟩
noncomputable def s_impl_greater : Sig := ⟨195, [.val .rat, .val .rat], [.val .rat], fun ((a : Rt), (b : Rt), _) => ⟨[goodRt a = true, goodRt b = true], (grR a b, ()), ()⟩⟩
noncomputable def s_spec_ivGreater : Sig := ⟨127, [.val .rat, .val .rat], [.val .rat], fun ((a : Rt), (b : Rt), _) => ⟨[goodRt a = true, goodRt b = true], (grR a b, ()), ()⟩⟩
noncomputable def s_spec_ivLess : Sig := ⟨128, [.val .rat, .val .rat], [.val .rat], fun ((a : Rt), (b : Rt), _) => ⟨[goodRt a = true, goodRt b = true], (lsR a b, ()), ()⟩⟩
theorem less_t {a b : Rt} (h : lessRt a b = true) : ltR a b := of_decide_eq_true h
theorem less_f {a b : Rt} (h : lessRt a b = false) : ¬ ltR a b := of_decide_eq_false h
theorem ok_impl_lesser : GSpec Tryz.prog s_impl_lesser := by
  refine fn_known tab_ok fol (Known.nil.cons ok_impl_less (by kernel_rfl)) (by decide) Tryz.func196 ?_
  rintro ⟨⟨(n : Int), (d : Int)⟩, ⟨(m : Int), (e : Int)⟩, ⟨⟩⟩ - ⟨h1, h2, _⟩
  repeat' (first | with_reducible apply andAll_cons | with_reducible apply andAll_nil | (with_reducible apply Cf.mk; kernel_rfl) | apply And.intro | intro _ | exact True.intro | apply Lf.mk)
  all_goals (try simp only [Bool.not_eq_true', Bool.not_eq_false', Bool.not_not, decide_eq_true_eq, decide_eq_false_iff_not, beq_iff_eq, bne_iff_ne, beq_eq_false_iff_ne, bne_eq_false_iff_eq, ne_eq, Bool.and_eq_true, Bool.and_eq_false_iff, Bool.or_eq_true, Bool.or_eq_false_iff, Int.toNat_natCast, Nat.zero_add, Int.ofNat_lt, Int.ofNat_le, List.length_cons, List.length_nil, List.drop_zero, List.take_length] at *)
  all_goals first | assumption | exact (lsR_alt2 (less_t (by assumption))).symm | exact (lsR_alt h1 h2 (less_f (by assumption))).symm
theorem ok_impl_greater : GSpec Tryz.prog s_impl_greater := by
  refine fn_known tab_ok fol (Known.nil.cons ok_impl_less (by kernel_rfl)) (by decide) Tryz.func195 ?_
  rintro ⟨⟨(n : Int), (d : Int)⟩, ⟨(m : Int), (e : Int)⟩, ⟨⟩⟩ - ⟨h1, h2, _⟩
  repeat' (first | with_reducible apply andAll_cons | with_reducible apply andAll_nil | (with_reducible apply Cf.mk; kernel_rfl) | apply And.intro | intro _ | exact True.intro | apply Lf.mk)
  all_goals (try simp only [Bool.not_eq_true', Bool.not_eq_false', Bool.not_not, decide_eq_true_eq, decide_eq_false_iff_not, beq_iff_eq, bne_iff_ne, beq_eq_false_iff_ne, bne_eq_false_iff_eq, ne_eq, Bool.and_eq_true, Bool.and_eq_false_iff, Bool.or_eq_true, Bool.or_eq_false_iff, Int.toNat_natCast, Nat.zero_add, Int.ofNat_lt, Int.ofNat_le, List.length_cons, List.length_nil, List.drop_zero, List.take_length] at *)
  all_goals first | assumption | exact (grR_t (less_t (by assumption))).symm | exact (grR_f (less_f (by assumption))).symm
theorem ok_spec_ivGreater : GSpec Tryz.prog s_spec_ivGreater := by
  refine fn_known tab_ok fol (Known.nil.cons ok_spec_raCmp (by kernel_rfl)) (by decide) Tryz.func127 ?_
  rintro ⟨⟨(n : Int), (d : Int)⟩, ⟨(m : Int), (e : Int)⟩, ⟨⟩⟩ - ⟨h1, h2, _⟩
  repeat' (first | with_reducible apply andAll_cons | with_reducible apply andAll_nil | (with_reducible apply Cf.mk; kernel_rfl) | apply And.intro | intro _ | exact True.intro | apply Lf.mk)
  all_goals (try simp only [Bool.not_eq_true', Bool.not_eq_false', Bool.not_not, decide_eq_true_eq, decide_eq_false_iff_not, beq_iff_eq, bne_iff_ne, beq_eq_false_iff_ne, bne_eq_false_iff_eq, ne_eq, Bool.and_eq_true, Bool.and_eq_false_iff, Bool.or_eq_true, Bool.or_eq_false_iff, Int.toNat_natCast, Nat.zero_add, Int.ofNat_lt, Int.ofNat_le, List.length_cons, List.length_nil, List.drop_zero, List.take_length] at *)
  all_goals first | assumption | exact (grR_t (cmpRt_neg.1 (by assumption))).symm | exact (grR_f (fun h => (by assumption : ¬ cmpRt _ _ < 0) (cmpRt_neg.2 h))).symm
theorem ok_spec_ivLess : GSpec Tryz.prog s_spec_ivLess := by
  refine fn_known tab_ok fol (Known.nil.cons ok_spec_raCmp (by kernel_rfl)) (by decide) Tryz.func128 ?_
  rintro ⟨⟨(n : Int), (d : Int)⟩, ⟨(m : Int), (e : Int)⟩, ⟨⟩⟩ - ⟨h1, h2, _⟩
  repeat' (first | with_reducible apply andAll_cons | with_reducible apply andAll_nil | (with_reducible apply Cf.mk; kernel_rfl) | apply And.intro | intro _ | exact True.intro | apply Lf.mk)
  all_goals (try simp only [Bool.not_eq_true', Bool.not_eq_false', Bool.not_not, decide_eq_true_eq, decide_eq_false_iff_not, beq_iff_eq, bne_iff_ne, beq_eq_false_iff_ne, bne_eq_false_iff_eq, ne_eq, Bool.and_eq_true, Bool.and_eq_false_iff, Bool.or_eq_true, Bool.or_eq_false_iff, Int.toNat_natCast, Nat.zero_add, Int.ofNat_lt, Int.ofNat_le, List.length_cons, List.length_nil, List.drop_zero, List.take_length] at *)
  all_goals first | assumption | exact (lsR_t (cmpRt_neg.1 (by assumption))).symm | exact (lsR_f (fun h => (by assumption : ¬ cmpRt _ _ < 0) (cmpRt_neg.2 h))).symm
theorem cmp_lt_less (a b : Rt) : decide (cmpRt a b < 0) = lessRt a b := decide_eq_decide.2 cmpRt_neg
theorem cmpRt_pos {a b : Rt} : 0 < cmpRt a b ↔ ltR b a := by
  have h := cmpRt_swap a b
  have h2 := @cmpRt_neg b a
  constructor
  · intro h3; exact h2.1 (by omega)
  · intro h3; have := h2.2 h3; omega
theorem cmp_le_iff {a b : Rt} : cmpRt a b ≤ 0 ↔ lessRt b a = false := by
  have h := @cmpRt_pos a b
  constructor
  · intro h2; exact decide_eq_false (fun h3 => by have := h.2 h3; omega)
  · intro h2; have h3 : ¬ ltR b a := of_decide_eq_false h2
    rcases Int.lt_or_le 0 (cmpRt a b) with h4 | h4
    · exact (h3 (h.1 h4)).elim
    · exact h4
theorem cmp_le_less (a b : Rt) : decide (cmpRt a b ≤ 0) = !lessRt b a := by
  rw [Bool.eq_iff_iff, decide_eq_true_eq, cmp_le_iff]; simp
theorem cmp_gt_iff {a b : Rt} : 0 < cmpRt a b ↔ lessRt b a = true := by
  rw [cmpRt_pos]; exact ⟨fun h => decide_eq_true h, fun h => of_decide_eq_true h⟩
theorem cmp_lt_iff {a b : Rt} : cmpRt a b < 0 ↔ lessRt a b = true := by
  rw [cmpRt_neg]; exact ⟨fun h => decide_eq_true h, fun h => of_decide_eq_true h⟩
theorem less_iff {a b : Rt} : lessRt a b = true ↔ ltR a b := ⟨fun h => of_decide_eq_true h, fun h => decide_eq_true h⟩
theorem all2 {α : Type} {p : α → Bool} {a b : α} (h : [a, b].all p = true) : p a = true ∧ p b = true := by simpa using h
noncomputable def s_impl_isInterval : Sig := ⟨76, [.val .iv], [.val .bool], fun ((i : Iv), _) => ⟨[], (ivOk i, ()), ()⟩⟩
noncomputable def s_spec_ivGood : Sig := ⟨80, [.val .iv], [.val .bool], fun ((i : Iv), _) => ⟨[], (ivOk i, ()), ()⟩⟩
theorem ok_impl_isInterval : GSpec Tryz.prog s_impl_isInterval := by
  refine fn_known tab_ok fol ((Known.nil.cons ok_impl_areUnits (by kernel_rfl)).cons ok_impl_less (by kernel_rfl)) (by decide) Tryz.func76 ?_
  rintro ⟨⟨⟨(n : Int), (d : Int)⟩, ⟨(m : Int), (e : Int)⟩⟩, ⟨⟩⟩ - _
  repeat' (first | with_reducible apply andAll_cons | with_reducible apply andAll_nil | (with_reducible apply Cf.mk; kernel_rfl) | apply And.intro | intro _ | exact True.intro | apply Lf.mk)
  all_goals (try simp only [Bool.not_eq_true', Bool.not_eq_false', Bool.not_not, decide_eq_true_eq, decide_eq_false_iff_not, beq_iff_eq, bne_iff_ne, beq_eq_false_iff_ne, bne_eq_false_iff_eq, ne_eq, Bool.and_eq_true, Bool.and_eq_false_iff, Bool.or_eq_true, Bool.or_eq_false_iff, Int.toNat_natCast, Nat.zero_add, Int.ofNat_lt, Int.ofNat_le, List.length_cons, List.length_nil, List.drop_zero, List.take_length] at *)
  all_goals first | exact unit_good (by assumption) | exact unit_good (all2 (by assumption)).1 | exact unit_good (all2 (by assumption)).2 | (simp_all [ivOk, cmp_lt_less, cmp_le_less, cmp_le_iff, cmp_lt_iff]; done) | skip
theorem ok_spec_ivGood : GSpec Tryz.prog s_spec_ivGood := by
  refine fn_known tab_ok fol ((Known.nil.cons ok_spec_raUnit (by kernel_rfl)).cons ok_spec_raCmp (by kernel_rfl)) (by decide) Tryz.func80 ?_
  rintro ⟨⟨⟨(n : Int), (d : Int)⟩, ⟨(m : Int), (e : Int)⟩⟩, ⟨⟩⟩ - _
  repeat' (first | with_reducible apply andAll_cons | with_reducible apply andAll_nil | (with_reducible apply Cf.mk; kernel_rfl) | apply And.intro | intro _ | exact True.intro | apply Lf.mk)
  all_goals (try simp only [Bool.not_eq_true', Bool.not_eq_false', Bool.not_not, decide_eq_true_eq, decide_eq_false_iff_not, beq_iff_eq, bne_iff_ne, beq_eq_false_iff_ne, bne_eq_false_iff_eq, ne_eq, Bool.and_eq_true, Bool.and_eq_false_iff, Bool.or_eq_true, Bool.or_eq_false_iff, Int.toNat_natCast, Nat.zero_add, Int.ofNat_lt, Int.ofNat_le, List.length_cons, List.length_nil, List.drop_zero, List.take_length] at *)
  all_goals first | exact unit_good (by assumption) | (simp_all [ivOk, cmp_lt_less, cmp_le_less, cmp_le_iff, cmp_lt_iff]; done) | skip
noncomputable def hasR (i : Iv) (x : Rt) : Bool := !lessRt x i.a && !lessRt i.b x
noncomputable def s_impl_isIn : Sig := ⟨121, [.val .iv, .val .rat], [.val .bool], fun ((i : Iv), (x : Rt), _) => ⟨[ivOk i = true, goodRt x = true], (hasR i x, ()), ()⟩⟩
theorem ok_impl_isIn : GSpec Tryz.prog s_impl_isIn := by
  refine fn_known tab_ok fol (Known.nil.cons ok_impl_less (by kernel_rfl)) (by decide) Tryz.func121 ?_
  rintro ⟨⟨⟨(n : Int), (d : Int)⟩, ⟨(m : Int), (e : Int)⟩⟩, ⟨(n' : Int), (d' : Int)⟩, ⟨⟩⟩ - ⟨h1, h2, _⟩
  obtain ⟨u1, u2, u3⟩ := ivOk_iff.1 h1
  repeat' (first | with_reducible apply andAll_cons | with_reducible apply andAll_nil | (with_reducible apply Cf.mk; kernel_rfl) | apply And.intro | intro _ | exact True.intro | apply Lf.mk)
  all_goals (try simp only [Bool.not_eq_true', Bool.not_eq_false', Bool.not_not, decide_eq_true_eq, decide_eq_false_iff_not, beq_iff_eq, bne_iff_ne, beq_eq_false_iff_ne, bne_eq_false_iff_eq, ne_eq, Bool.and_eq_true, Bool.and_eq_false_iff, Bool.or_eq_true, Bool.or_eq_false_iff, Int.toNat_natCast, Nat.zero_add, Int.ofNat_lt, Int.ofNat_le, List.length_cons, List.length_nil, List.drop_zero, List.take_length] at *)
  all_goals first | assumption | exact unit_good (by assumption) | (simp_all [hasR, cmp_lt_less, cmp_le_less, cmp_le_iff, cmp_lt_iff]; done) | skip
noncomputable def s_spec_rnHas : Sig := ⟨115, [.val .iv, .val .rat], [.val .bool], fun ((i : Iv), (x : Rt), _) => ⟨[ivOk i = true, goodRt x = true], (hasR i x, ()), ()⟩⟩
theorem ok_spec_rnHas : GSpec Tryz.prog s_spec_rnHas := by
  refine fn_known tab_ok fol (Known.nil.cons ok_spec_raCmp (by kernel_rfl)) (by decide) Tryz.func115 ?_
  rintro ⟨⟨⟨(n : Int), (d : Int)⟩, ⟨(m : Int), (e : Int)⟩⟩, ⟨(n' : Int), (d' : Int)⟩, ⟨⟩⟩ - ⟨h1, h2, _⟩
  obtain ⟨u1, u2, u3⟩ := ivOk_iff.1 h1
  repeat' (first | with_reducible apply andAll_cons | with_reducible apply andAll_nil | (with_reducible apply Cf.mk; kernel_rfl) | apply And.intro | intro _ | exact True.intro | apply Lf.mk)
  all_goals (try simp only [Bool.not_eq_true', Bool.not_eq_false', Bool.not_not, decide_eq_true_eq, decide_eq_false_iff_not, beq_iff_eq, bne_iff_ne, beq_eq_false_iff_ne, bne_eq_false_iff_eq, ne_eq, Bool.and_eq_true, Bool.and_eq_false_iff, Bool.or_eq_true, Bool.or_eq_false_iff, Int.toNat_natCast, Nat.zero_add, Int.ofNat_lt, Int.ofNat_le, List.length_cons, List.length_nil, List.drop_zero, List.take_length] at *)
  all_goals first | assumption | exact unit_good (by assumption) | (simp_all [hasR, cmp_lt_less, cmp_le_less, cmp_le_iff, cmp_lt_iff]; done) | skip
end Go.Vx
