/- Changes: the program's functions and the reference's. -/
import Derived.Test.YtlknhfldkkjclaaVpCh
import Derived.Test.YtlknhfldkkjclaaVxMapB
namespace Go.Vx
open Go Go.Proofs
set_option maxRecDepth 100000
set_option linter.unusedSimpArgs false
set_option linter.unusedVariables false

theorem cond_and (P Q : Bool) : (bif P then Q else false) = (P && Q) := by cases P <;> rfl
theorem sl_all {h : List Pt} (hm : mapOk h = true) : ((slL h (h.length - 1)).any fun s => decide (s.num ≤ 0)) = !risR (h.map Pt.y) := by
  obtain ⟨m1, m2, m3, m4, m5⟩ := mapOk_iff.1 hm
  have key : ∀ i, i + 1 < h.length → (decide ((slR (getA zP h i) (getA zP h (i + 1))).num ≤ 0) = true ↔ ¬ ltR (getA zP h i).y (getA zP h (i + 1)).y) := fun i hi => by
    rw [decide_eq_true_eq, ← sl_pos (map_pt hm (by omega)) (map_pt hm hi) (m5 i hi)]; omega
  cases hr : risR (h.map Pt.y) with
  | true =>
    have hr := risR_iff.1 hr
    rw [List.length_map] at hr
    rw [List.any_eq_false.2]
    · rfl
    · intro x hx
      obtain ⟨i, hi, rfl⟩ := List.mem_map.1 hx
      have hi := List.mem_range.1 hi
      rw [(key i (by omega))]
      have := hr i (by omega)
      rw [getA_map Pt.y zP _ _ _ (by omega), getA_map Pt.y zP _ _ _ (by omega)] at this
      exact fun h => h this
  | false =>
    have : ¬ ∀ i, i + 1 < h.length → ltR (getA zP h i).y (getA zP h (i + 1)).y := by
      intro hall
      have : risR (h.map Pt.y) = true := risR_iff.2 (fun i hi => by
        rw [List.length_map] at hi
        rw [getA_map Pt.y zP _ _ _ (by omega), getA_map Pt.y zP _ _ _ (by omega)]; exact hall i hi)
      rw [hr] at this; cases this
    obtain ⟨i, hi⟩ := Classical.not_forall.1 this
    have hi1 : i + 1 < h.length := Classical.byContradiction fun h => hi (fun h2 => (h h2).elim)
    have hi2 : ¬ ltR (getA zP h i).y (getA zP h (i + 1)).y := fun h => hi (fun _ => h)
    rw [List.any_eq_true.2]
    · rfl
    · exact ⟨_, List.mem_map.2 ⟨i, List.mem_range.2 (by omega), rfl⟩, (key i hi1).2 hi2⟩
theorem ch_no0 {h : List Pt} (hm : mapOk h = false) : false = chOk h := by unfold chOk; rw [hm]; rfl
theorem ch_fin {h : List Pt} (hm : mapOk h = true) : (((mapOk h && eqRt (getA zP h (Int.toNat 0)).y ⟨0, 1⟩) && eqRt (getA zP h ((h.length : Int) - 1).toNat).y ⟨1, 1⟩) && !((slL h (h.length - 1)).any fun s => decide (s.num ≤ 0))) = chOk h := by
  have := (mapOk_iff.1 hm).1
  unfold chOk
  rw [sl_all hm, Bool.not_not, Bool.and_assoc, Bool.and_assoc, show ((h.length : Int) - 1).toNat = h.length - 1 by omega]
  rfl
theorem ch_noA {h : List Pt} (hA : (mapOk h && eqRt (getA zP h (Int.toNat 0)).y ⟨0, 1⟩) = false) : false = chOk h := by
  unfold chOk
  rw [← Bool.and_assoc]
  have hA : (mapOk h && eqRt (getA zP h 0).y ⟨0, 1⟩) = false := hA
  rw [hA]; rfl
theorem ch_noB {h : List Pt} (hm : mapOk h = true) (hA : ((mapOk h && eqRt (getA zP h (Int.toNat 0)).y ⟨0, 1⟩) && eqRt (getA zP h ((h.length : Int) - 1).toNat).y ⟨1, 1⟩) = false) : false = chOk h := by
  have := (mapOk_iff.1 hm).1
  unfold chOk
  rw [← Bool.and_assoc, ← Bool.and_assoc]
  rw [show ((h.length : Int) - 1).toNat = h.length - 1 by omega] at hA
  have hA : ((mapOk h && eqRt (getA zP h 0).y ⟨0, 1⟩) && eqRt (getA zP h (h.length - 1)).y ⟨1, 1⟩) = false := hA
  rw [hA]; rfl
theorem bL {P Q : Bool} (h : (bif !P then true else Q) = false) : Q = false := by revert h; cases P <;> cases Q <;> decide
theorem bL' {P Q : Bool} (h : (bif !P then true else Q) = true) (h2 : P = true) : Q = true := by revert h h2; cases P <;> cases Q <;> decide
theorem bM {X Q : Bool} (h : (bif X then true else !Q) = true) (h2 : X = false) : Q = false := by revert h h2; cases X <;> cases Q <;> decide
theorem bN {X Q : Bool} (h : (bif X then true else !Q) = false) : Q = true := by revert h; cases X <;> cases Q <;> decide
theorem ch_y0 {h : List Pt} (hm : mapOk h = true) (h2 : ((getA zP h (Int.toNat 0)).y.num != 0) = false) : (getA zP h 0).y = ⟨0, 1⟩ := by
  have h3 : (getA zP h 0).y.num = 0 := by simpa using h2
  have hl := (mapOk_iff.1 hm).1
  exact good_eq (coord_good (ptOk_iff.1 (map_pt hm (by omega))).2) good_zero (by rw [h3]; simp)
theorem ch_noy0 {h : List Pt} (h2 : ((getA zP h (Int.toNat 0)).y.num != 0) = true) : false = chOk h := by
  symm; rw [Bool.eq_false_iff]; intro hc
  have := (chOk_iff.1 hc).2.1
  have h3 : ((getA zP h 0).y.num != 0) = true := h2
  rw [this] at h3; cases h3
theorem ch_noyl {h : List Pt} (hm : mapOk h = true) (h2 : eqRt (getA zP h ((h.length : Int) - 1).toNat).y ⟨1, 1⟩ = false) : false = chOk h := by
  have hl := (mapOk_iff.1 hm).1
  symm; rw [Bool.eq_false_iff]; intro hc
  have := (chOk_iff.1 hc).2.2.1
  rw [show ((h.length : Int) - 1).toNat = h.length - 1 by omega, this] at h2
  cases h2
theorem ch_nolt {h : List Pt} {i : Nat} (hi : i + 1 < h.length) (h2 : ¬ ltR (getA zP h i).y (getA zP h (i + 1)).y) : false = chOk h := by
  symm; rw [Bool.eq_false_iff]; intro hc
  exact h2 ((chOk_iff.1 hc).2.2.2 i hi)
theorem ch_yes {h : List Pt} (hm : mapOk h = true) (h0 : (getA zP h 0).y = ⟨0, 1⟩) (h1 : eqRt (getA zP h ((h.length : Int) - 1).toNat).y ⟨1, 1⟩ = true) (h2 : ∀ i, i + 1 < h.length → ltR (getA zP h i).y (getA zP h (i + 1)).y) : true = chOk h := by
  have hl := (mapOk_iff.1 hm).1
  symm
  rw [show ((h.length : Int) - 1).toNat = h.length - 1 by omega] at h1
  exact chOk_iff.2 ⟨hm, h0, of_decide_eq_true h1, h2⟩
theorem ge_nlt {a b : Rt} (h : 0 ≤ cmpRt a b) : ¬ ltR a b := fun h2 => by have := cmpRt_neg.2 h2; omega
theorem nge_lt {a b : Rt} (h : ¬ 0 ≤ cmpRt a b) : ltR a b := cmpRt_neg.1 (by omega)
noncomputable def icRes (h : List Pt) : List Pt × Bool := match chOk h with
  | true => (exR h, true)
  | false => ([], false)
theorem ic_t {h : List Pt} (hc : chOk h = true) : icRes h = (exR h, true) := by unfold icRes; rw [hc]
theorem ic_f {h : List Pt} (hc : chOk h = false) : icRes h = ([], false) := by unfold icRes; rw [hc]
theorem ch_len {h : List Pt} (hc : chOk h = true) : 2 ≤ h.length ∧ h.length ≤ 12 := (mapOk_iff.1 (chOk_iff.1 hc).1).1
theorem ic_len (h : List Pt) : (icRes h).1.length ≤ 12 := by
  cases hc : chOk h with
  | false => rw [ic_f hc]; exact Nat.zero_le _
  | true => rw [ic_t hc]; have := ch_len hc; dsimp only; rw [exR_length]; omega
theorem one_nlt {y : Rt} (h : unitRt y = true) (h2 : ltR ⟨1, 1⟩ y) : False := by
  have h3 := unitRt_iff.1 h
  have h4 : (1 : Int) * y.den < y.num * 1 := h2
  omega
end Go.Vx
