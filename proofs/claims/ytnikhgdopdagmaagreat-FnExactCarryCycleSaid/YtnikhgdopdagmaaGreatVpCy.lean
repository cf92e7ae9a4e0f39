/- Cycles, and cycles carried by a change: plain laws. -/
import Derived.Test.YtnikhgdopdagmaaGreatVpIc
namespace Go.Vx
open Go
set_option maxRecDepth 100000
set_option linter.unusedSimpArgs false
set_option linter.unusedVariables false

/-- one more only if it is not there -/
theorem putL_len_in {x : Rt} (hx : goodRt x = true) : ∀ {l : List Rt}, Gd l → SS l → x ∈ l → (putL l x).length = l.length
  | [], _, _, h => by cases h
  | y :: r, hg, hs, h => by
    have hs' := List.pairwise_cons.1 hs
    have hy := hg y (by simp)
    rw [putL_cons]
    split
    · rename_i h1
      rw [less_q hy hx] at h1
      rcases List.mem_cons.1 h with h2 | h2
      · rw [h2] at h1; grind
      · rw [List.length_cons, List.length_cons, putL_len_in hx (fun z hz => hg z (by simp [hz])) hs'.2 h2]
    · rename_i h1
      split
      · rfl
      · rename_i h3
        exfalso
        rcases List.mem_cons.1 h with h2 | h2
        · exact h3 h2.symm
        · exact h1 ((less_q hy hx).2 (hs'.1 x h2))
theorem putL_len_out {x : Rt} : ∀ {l : List Rt}, x ∉ l → (putL l x).length = l.length + 1
  | [], _ => by rw [putL_nil]; rfl
  | y :: r, h => by
    rw [putL_cons]
    simp only [List.mem_cons, not_or] at h
    split
    · rw [List.length_cons, List.length_cons, putL_len_out h.2]
    · rw [if_neg (fun e => h.1 e.symm)]; rfl
/-- all different among the first n -/
@[irreducible] def dfN (l : List Rt) (n : Nat) : Bool := (List.range n).all fun i => decide (idxF (fun y => eqRt (getA zR l i) y) (l.take i) < 0)
theorem dfN_zero (l : List Rt) : dfN l 0 = true := by unfold dfN; rfl
theorem dfN_succ (l : List Rt) (n : Nat) : dfN l (n + 1) = (dfN l n && decide (idxF (fun y => eqRt (getA zR l n) y) (l.take n) < 0)) := by unfold dfN; rw [List.range_succ, List.all_append]; simp
theorem idx_in {l : List Rt} {x : Rt} : idxF (fun y => eqRt x y) l < 0 ↔ x ∉ l := by
  have h := @idxF_any Rt (fun y => eqRt x y) l
  have h2 : (l.any fun y => eqRt x y) = true ↔ x ∈ l := by
    rw [List.any_eq_true]
    constructor
    · rintro ⟨y, h1, h2⟩
      have : x = y := of_decide_eq_true h2
      rw [this]; exact h1
    · intro h1
      exact ⟨x, h1, decide_eq_true rfl⟩
  rw [← h2, ← h, decide_eq_true_eq]
  omega
theorem df_len {l : List Rt} (hg : Gd l) : ∀ n, n ≤ l.length → (dfN l n = true → (putsL [] (l.take n)).length = n) ∧ (dfN l n = false → (putsL [] (l.take n)).length < n)
  | 0, _ => by rw [dfN_zero, List.take_zero, putsL_nil]; exact ⟨fun _ => rfl, fun h => by cases h⟩
  | n + 1, h => by
    obtain ⟨h1, h2⟩ := df_len hg n (by omega)
    have hgt : Gd (l.take n) := fun x hx => hg x (List.mem_of_mem_take hx)
    have hx := hg _ (getA_mem zR (l := l) (i := n) (by omega))
    have hss : SS (putsL [] (l.take n)) := putsL_ss Gd.nil hgt SS.nil
    have hgg : Gd (putsL [] (l.take n)) := putsL_good Gd.nil hgt
    have hmem : getA zR l n ∈ putsL [] (l.take n) ↔ getA zR l n ∈ l.take n := by rw [putsL_mem]; simp
    have hle := putsL_len (l.take n) []
    rw [List.length_take] at hle
    simp only [List.length_nil] at hle
    rw [take_next zR (by omega), putsL_one', dfN_succ]
    by_cases hin : getA zR l n ∈ l.take n
    · rw [putL_len_in hx hgg hss (hmem.2 hin), decide_eq_false (fun h3 => idx_in.1 h3 hin), Bool.and_false]
      exact ⟨fun h3 => (Bool.noConfusion h3), fun _ => by omega⟩
    · rw [putL_len_out (fun h3 => hin (hmem.1 h3)), decide_eq_true (idx_in.2 hin), Bool.and_true]
      exact ⟨fun h3 => by rw [h1 h3], fun h3 => by have := h2 h3; omega⟩
theorem df_eq {l : List Rt} (hg : Gd l) : decide ((putsL [] l).length = l.length) = dfN l l.length := by
  obtain ⟨h1, h2⟩ := df_len hg l.length (Nat.le_refl _)
  rw [List.take_length] at h1 h2
  cases h : dfN l l.length
  · have := h2 h; exact decide_eq_false (by omega)
  · exact decide_eq_true (h1 h)
/-- the place behind, round about -/
abbrev nxI (l : List Rt) (i : Nat) : Nat := (((i : Int) + 1).tmod (l.length : Int)).toNat
@[irreducible] noncomputable def cyG (f : List Pt) (l : List Rt) (n : Nat) : Bool := (List.range n).all fun i => (vR f (getA zR l i)).2
theorem cyG_zero (f : List Pt) (l : List Rt) : cyG f l 0 = true := by unfold cyG; rfl
theorem cyG_succ (f : List Pt) (l : List Rt) (n : Nat) : cyG f l (n + 1) = (cyG f l n && (vR f (getA zR l n)).2) := by unfold cyG; rw [List.range_succ, List.all_append]; simp
theorem cyG_at {f : List Pt} {l : List Rt} : ∀ {n : Nat}, cyG f l n = true → ∀ i, i < n → (vR f (getA zR l i)).2 = true
  | 0, _, i, hi => by omega
  | n + 1, hg, i, hi => by
    rw [cyG_succ, Bool.and_eq_true] at hg
    by_cases e : i = n
    · rw [e]; exact hg.2
    · exact cyG_at hg.1 i (by omega)
theorem cyG_f {f : List Pt} {l : List Rt} {i n : Nat} (hi : i < n) (hb : (vR f (getA zR l i)).2 = false) : cyG f l n = false := by
  cases hg : cyG f l n
  · rfl
  · rw [cyG_at hg i hi] at hb; cases hb
theorem cy_flag {f : List Pt} {l : List Rt} {i : Nat} (c : Bool) : ((c || !cyG f l i) || !(vR f (getA zR l i)).2) = (c || !cyG f l (i + 1)) := by
  rw [cyG_succ]
  generalize cyG f l i = a
  generalize (vR f (getA zR l i)).2 = b
  cases c <;> cases a <;> cases b <;> rfl
@[irreducible] noncomputable def cyL (f : List Pt) (l : List Rt) (n : Nat) : Bool := (List.range n).all fun i => eqRt (vO f (getA zR l i)) (getA zR l (nxI l i))
theorem cyL_zero (f : List Pt) (l : List Rt) : cyL f l 0 = true := by unfold cyL; rfl
theorem cyL_succ (f : List Pt) (l : List Rt) (n : Nat) : cyL f l (n + 1) = (cyL f l n && eqRt (vO f (getA zR l n)) (getA zR l (nxI l n))) := by unfold cyL; rw [List.range_succ, List.all_append]; simp
/-- is a cycle, and whether all values are told -/
noncomputable def cyR (f : List Pt) (l : List Rt) : Bool × Bool := match cyG f l l.length with
  | true => (cyL f l l.length && dfN l l.length, true)
  | false => (false, false)
theorem cyR_t {f : List Pt} {l : List Rt} (h : cyG f l l.length = true) : cyR f l = (cyL f l l.length && dfN l l.length, true) := by unfold cyR; rw [h]
theorem cyR_f {f : List Pt} {l : List Rt} (h : cyG f l l.length = false) : cyR f l = (false, false) := by unfold cyR; rw [h]
noncomputable def cyOk (f : List Pt) (l : List Rt) : Bool := mapOk f && (inB (l.length : Int) 1 60 && l.all unitRt)
noncomputable def cysR (f : List Pt) (l : List Rt) : Bool × Bool := match cyOk f l with
  | true => cyR f l
  | false => (false, false)
theorem cyOk_iff {f : List Pt} {l : List Rt} : cyOk f l = true ↔ (mapOk f = true ∧ inB (l.length : Int) 1 60 = true ∧ l.all unitRt = true) := by unfold cyOk; rw [Bool.and_eq_true, Bool.and_eq_true]
theorem cysR_t {f : List Pt} {l : List Rt} (h : cyOk f l = true) : cysR f l = cyR f l := by unfold cysR; rw [h]
theorem cysR_f {f : List Pt} {l : List Rt} (h : cyOk f l = false) : cysR f l = (false, false) := by unfold cysR; rw [h]
theorem cyOk_f1 {f : List Pt} {l : List Rt} (h : mapOk f = false) : cyOk f l = false := by unfold cyOk; rw [h]; rfl
theorem cyOk_f2 {f : List Pt} {l : List Rt} (h : inB (l.length : Int) 1 60 = false) : cyOk f l = false := by unfold cyOk; rw [h]; cases mapOk f <;> rfl
theorem cyOk_f3 {f : List Pt} {l : List Rt} (h : l.all unitRt = false) : cyOk f l = false := by unfold cyOk; rw [h]; cases mapOk f <;> cases inB (l.length : Int) 1 60 <;> rfl
@[irreducible] noncomputable def vsL (h : List Pt) (l : List Rt) (n : Nat) : List Rt := (List.range n).map fun i => vO h (getA zR l i)
theorem vsL_zero (h : List Pt) (l : List Rt) : vsL h l 0 = [] := by unfold vsL; rfl
theorem vsL_succ (h : List Pt) (l : List Rt) (n : Nat) : vsL h l (n + 1) = vsL h l n ++ [vO h (getA zR l n)] := by unfold vsL; rw [List.range_succ, List.map_append]; rfl
theorem vsL_len (h : List Pt) (l : List Rt) (n : Nat) : (vsL h l n).length = n := by unfold vsL; simp
/-- the cycle that is carried -/
noncomputable def ccR (f g h : List Pt) (l : List Rt) : List Rt × Bool := match (cjRes f g h).2 && (cjRes f g h).1 && ((cysR f l).2 && (cysR f l).1) && cyG h l l.length with
  | true => (vsL h l l.length, true)
  | false => ([], false)
theorem ccR_t {f g h : List Pt} {l : List Rt} (h1 : (cjRes f g h).2 = true) (h2 : (cjRes f g h).1 = true) (h3 : (cysR f l).2 = true) (h4 : (cysR f l).1 = true) (h5 : cyG h l l.length = true) : ccR f g h l = (vsL h l l.length, true) := by unfold ccR; rw [h1, h2, h3, h4, h5]; rfl
theorem ccR_f1 {f g h : List Pt} {l : List Rt} (h1 : (cjRes f g h).2 = false) : ccR f g h l = ([], false) := by unfold ccR; rw [h1]; rfl
theorem ccR_f2 {f g h : List Pt} {l : List Rt} (h1 : (cjRes f g h).1 = false) : ccR f g h l = ([], false) := by unfold ccR; rw [h1, Bool.and_false]; rfl
theorem ccR_f3 {f g h : List Pt} {l : List Rt} (h1 : (cysR f l).2 = false) : ccR f g h l = ([], false) := by unfold ccR; rw [h1, Bool.false_and, Bool.and_false]; rfl
theorem ccR_f4 {f g h : List Pt} {l : List Rt} (h1 : (cysR f l).1 = false) : ccR f g h l = ([], false) := by unfold ccR; rw [h1, Bool.and_false, Bool.and_false]; rfl
theorem ccR_f5 {f g h : List Pt} {l : List Rt} (h1 : cyG h l l.length = false) : ccR f g h l = ([], false) := by unfold ccR; rw [h1, Bool.and_false]
theorem cys_ok {f : List Pt} {l : List Rt} (h : (cysR f l).2 = true) : cyOk f l = true := by
  cases h1 : cyOk f l with
  | true => rfl
  | false => rw [cysR_f h1] at h; cases h
theorem cj_ok {f g h : List Pt} (h1 : (cjRes f g h).2 = true) : tpsOk f g h = true := by
  cases h2 : tpsOk f g h with
  | true => rfl
  | false => rw [cjRes_f h2] at h1; cases h1
theorem ccR_len (f g h : List Pt) (l : List Rt) : (ccR f g h l).1.length ≤ l.length := by
  unfold ccR
  split
  · rw [vsL_len]; exact Nat.le_refl _
  · exact Nat.zero_le _
end Go.Vx
