/- Patterns, in plain arithmetic: the elements that are met from 0 on. -/
import Derived.Test.YtalgocopemmelaaGreatDoorVpBase
namespace Go.Vx
open Go

def cycA (l : List Int) : Nat → List Int → Int → List Int
  | 0, out, _ => out
  | f + 1, out, i => match out.contains i with
    | true => out
    | false => cycA l f (out ++ [i]) (getA 0 l i.toNat)
def cyc (l : List Int) : List Int := cycA l (l.length + 1) [] 0
theorem cycA_stop {l : List Int} {f : Nat} {out : List Int} {i : Int} (h : out.contains i = true) : cycA l f out i = out := by
  cases f with
  | zero => rfl
  | succ f => simp only [cycA, h]
theorem cycA_step {l : List Int} {f : Nat} {out : List Int} {i : Int} (h : out.contains i = false) : cycA l (f + 1) out i = cycA l f (out ++ [i]) (getA 0 l i.toNat) := by
  simp only [cycA, h]

/-- different numbers from 0 to less than n are at most n -/
theorem nodup_le : ∀ (n : Nat) (out : List Int), out.Nodup → (∀ x ∈ out, 0 ≤ x ∧ x < n) → out.length ≤ n
  | 0, out, _, h => by
    cases out with
    | nil => simp
    | cons a r => have := h a (by simp); omega
  | n + 1, out, hn, h => by
    have h1 := nodup_le n (out.filter fun x => decide (x ≠ (n : Int))) (hn.filter _) (fun x hx => by
      rw [List.mem_filter] at hx
      have := h x hx.1
      have h3 : x ≠ (n : Int) := by simpa using hx.2
      omega)
    have h2 : (out.filter fun x => !decide (x ≠ (n : Int))).length ≤ 1 := by
      have hd := hn.filter (fun x => !decide (x ≠ (n : Int)))
      have ha : ∀ x ∈ out.filter (fun x => !decide (x ≠ (n : Int))), x = (n : Int) := fun x hx => by
        rw [List.mem_filter] at hx; simpa using hx.2
      match hq : out.filter (fun x => !decide (x ≠ (n : Int))), hd, ha with
      | [], _, _ => simp
      | [a], _, _ => simp
      | a :: b :: r, hd, ha =>
        have e1 := ha a (by simp)
        have e2 := ha b (by simp)
        exact ((List.nodup_cons.1 hd).1 (by rw [e1, e2]; simp)).elim
    have h3 : ∀ (l : List Int) (p : Int → Bool), l.length = (l.filter p).length + (l.filter fun x => !p x).length := by
      intro l p
      induction l with
      | nil => rfl
      | cons a r ih => cases hp : p a <;> simp [hp, ih] <;> omega
    have h4 := h3 out (fun x => decide (x ≠ (n : Int)))
    omega
def rngP (l : List Int) : Bool := l.all fun k => inB k 0 ((l.length : Int) - 1)
theorem rngP_get {l : List Int} (h : rngP l = true) {i : Nat} (hi : i < l.length) : 0 ≤ getA 0 l i ∧ getA 0 l i < l.length := by
  have h1 : getA 0 l i ∈ l := by rw [getA_eq]; simp [List.getD, hi]
  have := List.all_eq_true.1 h _ h1
  simp [inB] at this
  omega
structure CycI (l out : List Int) (i : Int) : Prop where
  eq : cycA l (l.length + 1 - out.length) out i = cyc l
  nd : out.Nodup
  rg : ∀ x ∈ out, 0 ≤ x ∧ x < l.length
  ii : 0 ≤ i ∧ i < l.length
theorem CycI.len {l out : List Int} {i : Int} (h : CycI l out i) : out.length ≤ l.length := nodup_le l.length out h.nd h.rg
theorem CycI.start {l : List Int} (h : 0 < l.length) : CycI l [] 0 := ⟨rfl, List.nodup_nil, (fun _ h => by cases h), by omega⟩
theorem CycI.stop {l out : List Int} {i : Int} (h : CycI l out i) (hc : out.contains i = true) : out = cyc l := by rw [← h.eq, cycA_stop hc]
theorem CycI.step {l out : List Int} {i : Int} (hr : rngP l = true) (h : CycI l out i) (hc : out.contains i = false) : CycI l (out ++ [i]) (getA 0 l i.toNat) := by
  have hl := h.len
  have hni : i ∉ out := by intro h2; rw [← List.contains_iff_mem] at h2; rw [h2] at hc; cases hc
  have hi := h.ii
  refine ⟨?_, ?_, ?_, rngP_get hr (by omega)⟩
  · rw [← h.eq, show l.length + 1 - out.length = (l.length + 1 - (out ++ [i]).length) + 1 by simp; omega, cycA_step hc]
  · rw [List.nodup_append]
    exact ⟨h.nd, by simp, fun a ha b hb => by simp at hb; subst hb; intro e; exact hni (e ▸ ha)⟩
  · intro x hx
    rcases List.mem_append.1 hx with hx | hx
    · exact h.rg x hx
    · simp at hx; subst hx; exact hi
theorem cycA_mem {l : List Int} (hr : rngP l = true) : ∀ (f : Nat) (out : List Int) (i : Int), (∀ x ∈ out, 0 ≤ x ∧ x < (l.length : Int)) → 0 ≤ i ∧ i < l.length → ∀ x ∈ cycA l f out i, 0 ≤ x ∧ x < (l.length : Int)
  | 0, out, i, h, _ => h
  | f + 1, out, i, h, hi => by
    simp only [cycA]
    split
    · exact h
    · refine cycA_mem hr f _ _ (fun x hx => ?_) (rngP_get hr (by omega))
      rcases List.mem_append.1 hx with hx | hx
      · exact h x hx
      · simp at hx; subst hx; exact hi
theorem cyc_mem {l : List Int} (hr : rngP l = true) (h0 : 0 < l.length) : ∀ x ∈ cyc l, 0 ≤ x ∧ x < (l.length : Int) := cycA_mem hr _ _ _ (fun _ h => by cases h) (by omega)
theorem cyc_length_pos {l : List Int} (h0 : 0 < l.length) : 0 < (cyc l).length := by
  have : ∀ (f : Nat) (out : List Int) (i : Int), 0 < out.length → 0 < (cycA l f out i).length := by
    intro f
    induction f with
    | zero => intro out i h; exact h
    | succ f ih =>
      intro out i h
      simp only [cycA]
      split
      · exact h
      · exact ih _ _ (by simp)
  unfold cyc
  rw [cycA_step (by rfl)]
  exact this _ _ _ (by simp)

def patOk (l : List Int) : Bool := inB l.length 1 9 && (rngP l && (decide ((cyc l).length = l.length) && decide (getA 0 l (getA 0 (cyc l) (l.length - 1)).toNat = 0)))
theorem patOk_iff {l : List Int} : patOk l = true ↔ ((1 ≤ l.length ∧ l.length ≤ 9) ∧ rngP l = true ∧ (cyc l).length = l.length ∧ getA 0 l (getA 0 (cyc l) (l.length - 1)).toNat = 0) := by
  unfold patOk
  rw [Bool.and_eq_true, Bool.and_eq_true, Bool.and_eq_true, decide_eq_true_eq, decide_eq_true_eq, inB, decide_eq_true_eq]
  constructor
  · rintro ⟨h1, h2⟩; exact ⟨by omega, h2⟩
  · rintro ⟨h1, h2⟩; exact ⟨by omega, h2⟩
def stepP (l : List Int) (i : Int) : Nat → Int
  | 0 => i
  | n + 1 => getA 0 l (stepP l i n).toNat
theorem stepP_rng {l : List Int} (hr : rngP l = true) {i : Int} (hi : 0 ≤ i ∧ i < l.length) : ∀ n, 0 ≤ stepP l i n ∧ stepP l i n < l.length
  | 0 => hi
  | n + 1 => rngP_get hr (by have := stepP_rng hr hi n; omega)
theorem stepP_succ (l : List Int) : ∀ (n : Nat) (i : Int), stepP l (getA 0 l i.toNat) n = stepP l i (n + 1)
  | 0, _ => rfl
  | n + 1, i => by
    show getA 0 l (stepP l (getA 0 l i.toNat) n).toNat = _
    rw [stepP_succ l n i]; rfl
def invP (l : List Int) : Nat → List Int
  | 0 => List.replicate l.length 0
  | n + 1 => (invP l n).set (getA 0 l n).toNat (n : Int)
theorem invP_length (l : List Int) : ∀ n, (invP l n).length = l.length
  | 0 => by simp [invP]
  | n + 1 => by simp [invP, invP_length l n]
end Go.Vx
