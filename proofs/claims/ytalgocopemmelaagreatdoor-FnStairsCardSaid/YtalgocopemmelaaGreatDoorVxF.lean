/- The library's functions on slices, at the element types of this seat. -/
import Derived.Test.YtalgocopemmelaaGreatDoorVxA
namespace Go.Vx
open Go Go.Proofs
set_option maxRecDepth 100000
set_option linter.unusedSimpArgs false
set_option linter.unusedVariables false

def idxF {α : Type} (p : α → Bool) (l : List α) : Int := match l.findIdx? p with
  | some i => (i : Int)
  | none => -1
theorem take_all_false {α : Type} {p : α → Bool} (d : α) {l : List α} {i : Nat} (h : i < l.length) (h1 : (l.take i).any p = false) (h2 : p (getA d l i) = false) : (l.take (i + 1)).any p = false := by
  rw [getA_eq] at h2
  rw [List.take_add_one, List.any_append, h1]
  simp [List.getD, h] at h2
  simp [h, h2]
theorem idxF_hit {α : Type} {p : α → Bool} (d : α) {l : List α} {i : Nat} (h : i < l.length) (h1 : (l.take i).any p = false) (h2 : p (getA d l i) = true) : idxF p l = i := by
  have : l.findIdx? p = some i := by
    rw [List.findIdx?_eq_some_iff_getElem]
    refine ⟨h, ?_, fun j hj => ?_⟩
    · rw [getA_eq] at h2; simpa [List.getD, h] using h2
    · have := (List.any_eq_false.1 h1) l[j] (by
        rw [List.mem_take_iff_getElem]; exact ⟨j, by omega, rfl⟩)
      simpa using this
  unfold idxF; rw [this]
theorem idxF_none {α : Type} {p : α → Bool} {l : List α} (h1 : l.any p = false) : idxF p l = -1 := by
  have : l.findIdx? p = none := by
    rw [List.findIdx?_eq_none_iff]
    intro x hx
    have := (List.any_eq_false.1 h1) x hx
    simpa using this
  unfold idxF; rw [this]
theorem idxF_any {α : Type} {p : α → Bool} {l : List α} : decide (0 ≤ idxF p l) = l.any p := by
  cases h : l.any p
  · rw [idxF_none h]; rfl
  · have : l.findIdx? p ≠ none := by
      rw [ne_eq, List.findIdx?_eq_none_iff]
      intro h2
      obtain ⟨x, hx, hp⟩ := List.any_eq_true.1 h
      rw [h2 x hx] at hp; cases hp
    unfold idxF
    cases hf : l.findIdx? p with
    | none => exact (this hf).elim
    | some i => simp
theorem getA_mem {α : Type} (d : α) {l : List α} {i : Nat} (h : i < l.length) : getA d l i ∈ l := by
  rw [getA_eq]; simp [List.getD, h]
theorem idxF_rng {α : Type} (p : α → Bool) (l : List α) : -1 ≤ idxF p l ∧ idxF p l < (l.length : Int) ∨ idxF p l = -1 := by
  unfold idxF
  cases hf : l.findIdx? p with
  | none => exact .inr rfl
  | some i =>
    have := (List.findIdx?_eq_some_iff_getElem.1 hf)
    obtain ⟨h, _⟩ := this
    have h1 : -1 ≤ (i : Int) ∧ (i : Int) < (l.length : Int) := ⟨by omega, by omega⟩
    exact .inl h1



noncomputable def s_lib_IndexFuncPoint : Sig := ⟨98, [.list .pt, .clo .pt], [.val NI], fun ((l : List Pt), ((D : Pt → Prop), (p : Pt → Bool)), _) => ⟨[∀ x ∈ l, D x], (idxF p l, ()), ()⟩⟩
theorem ok_lib_IndexFuncPoint : GSpec Tryz.prog s_lib_IndexFuncPoint := by
  refine fn_known tab_ok fol Known.nil (by decide) Tryz.func98 ?_
  rintro ⟨(l : List Pt), ⟨(D : Pt → Prop), (p : Pt → Bool)⟩, ⟨⟩⟩ ⟨hl, _⟩ ⟨hD, _⟩
  have hl : l.length ≤ 9223372036854775807 := hl
  refine ⟨Nat, fun i => ⟨[(8, .sc (.num .i64 i))], [100000], []⟩, fun i => i ≤ l.length ∧ (l.take i).any p = false, fun i => l.length - i, ⟨0, ⟨Nat.zero_le _, rfl⟩, ?_⟩, ?_⟩
  · repeat' (first | apply And.intro | exact True.intro | exact Lf.mk (by with_reducible rfl) | apply Lf.mk)
    all_goals rfl
  · rintro i ⟨g1, g2⟩
    repeat' (first | with_reducible apply andAll_cons | with_reducible apply andAll_nil | (with_reducible apply Cf.mk; kernel_rfl) | apply And.intro | intro _ | exact True.intro | apply Lf.mk)
    all_goals (try simp only [Bool.not_eq_true', Bool.not_eq_false', Bool.not_not, decide_eq_true_eq, decide_eq_false_iff_not, beq_iff_eq, bne_iff_ne, beq_eq_false_iff_ne, bne_eq_false_iff_eq, ne_eq, Bool.and_eq_true, Bool.and_eq_false_iff, Bool.or_eq_true, Bool.or_eq_false_iff, Int.toNat_natCast, Nat.zero_add, Int.ofNat_lt, Int.ofNat_le, List.length_cons, List.length_nil, List.drop_zero, List.take_length] at *)
    all_goals first | omega | exact hD _ (getA_mem _ (by omega)) | skip
    · exact (idxF_hit _ (by assumption) g2 (by assumption)).symm
    · refine ⟨i + 1, ⟨by omega, take_all_false (VK.dflt (.pt)) (by assumption) g2 (by assumption)⟩, by omega, ?_⟩
      repeat' (first | apply And.intro | exact True.intro | exact Lf.mk (by with_reducible rfl) | apply Lf.mk)
      all_goals (rw [Int.natCast_add]; rfl)
    · rename_i h3
      rw [List.take_of_length_le (by omega)] at g2
      exact (idxF_none g2).symm
noncomputable def s_lib_ContainsFuncPoint : Sig := ⟨84, [.list .pt, .clo .pt], [.val .bool], fun ((l : List Pt), ((D : Pt → Prop), (p : Pt → Bool)), _) => ⟨[∀ x ∈ l, D x], (l.any p, ()), ()⟩⟩
theorem ok_lib_ContainsFuncPoint : GSpec Tryz.prog s_lib_ContainsFuncPoint := by
  refine fn_known tab_ok fol (Known.nil.cons ok_lib_IndexFuncPoint (by kernel_rfl)) (by decide) Tryz.func84 ?_
  rintro ⟨(l : List Pt), ⟨(D : Pt → Prop), (p : Pt → Bool)⟩, ⟨⟩⟩ ⟨hl, _⟩ ⟨hD, _⟩
  repeat' (first | with_reducible apply andAll_cons | with_reducible apply andAll_nil | (with_reducible apply Cf.mk; kernel_rfl) | apply And.intro | intro _ | exact True.intro | apply Lf.mk)
  all_goals (try simp only [Bool.not_eq_true', Bool.not_eq_false', Bool.not_not, decide_eq_true_eq, decide_eq_false_iff_not, beq_iff_eq, bne_iff_ne, beq_eq_false_iff_ne, bne_eq_false_iff_eq, ne_eq, Bool.and_eq_true, Bool.and_eq_false_iff, Bool.or_eq_true, Bool.or_eq_false_iff, Int.toNat_natCast, Nat.zero_add, Int.ofNat_lt, Int.ofNat_le, List.length_cons, List.length_nil, List.drop_zero, List.take_length] at *)
  all_goals first | exact hD _ (by assumption) | exact idxF_any

end Go.Vx
