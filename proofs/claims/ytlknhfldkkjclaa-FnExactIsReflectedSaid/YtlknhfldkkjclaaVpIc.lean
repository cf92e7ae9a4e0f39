/- Test points lie from 0 to 1; when a change is a conjugacy: plain laws. -/
import Derived.Test.YtlknhfldkkjclaaVpTp
namespace Go.Vx
open Go
set_option maxRecDepth 100000
set_option linter.unusedSimpArgs false
set_option linter.unusedVariables false

theorem q_negR {r : Rt} (h : goodRt r = true) : r.num < 0 ↔ qR r < 0 := by
  have h1 := q_lt h good_zero
  rw [q_zero] at h1
  dsimp only at h1
  rw [← h1]; omega
theorem sl_neg {p q : Pt} (hp : ptOk p = true) (hq : ptOk q = true) (h : ltR p.x q.x) (hr : ltR q.y p.y) : qR (slR p q) < 0 := by
  obtain ⟨s1, s2, s3⟩ := slR_ok hp hq h
  rw [ptOk_iff] at hp hq
  have gx := coord_good hp.1
  have gy := coord_good hp.2
  have gX := coord_good hq.1
  have gY := coord_good hq.2
  have l1 := (q_lt gx gX).1 h
  have l2 := (q_lt gY gy).1 hr
  by_cases h3 : qR (slR p q) < 0
  · exact h3
  · by_cases h4 : qR (slR p q) = 0
    · rw [h4] at s3; grind
    · have := Rat.mul_pos (show 0 < qR (slR p q) by grind) (show 0 < qR q.x - qR p.x by grind); grind
/-- where a falling piece has a value between its ends lies between them -/
theorem back_unit_f {p q : Pt} {y : Rt} (hp : ptOk p = true) (hq : ptOk q = true) (h : ltR p.x q.x) (hr : ltR q.y p.y) (hy : goodRt y = true) (h1 : ¬ ltR p.y y) (h2 : ¬ ltR y q.y) (ho : (backR p (slR p q) y).2 = true) : unitRt (backR p (slR p q) y).1 = true := by
  obtain ⟨s1, s2, s3⟩ := slR_ok hp hq h
  have s5 := sl_neg hp hq h hr
  have s4 := (q_negR s2).2 s5
  rw [ptOk_iff] at hp hq
  have gx := coord_good hp.1
  have gy := coord_good hp.2
  have gX := coord_good hq.1
  have gY := coord_good hq.2
  cases e1 : (subRt y p.y).2 with
  | false => rw [backR_1 e1] at ho; cases ho
  | true =>
    cases e2 : (divRt (subRt y p.y).1 (slR p q)).2 with
    | false => rw [backR_2 e1 e2] at ho; cases ho
    | true =>
      rw [backR_3 e1 e2] at ho ⊢
      have g1 : goodRt (subRt y p.y).1 = true := lowRt_good1 e1
      have g2 : goodRt (divRt (subRt y p.y).1 (slR p q)).1 = true := lowRt_good1 e2
      have g3 : goodRt (addRt p.x (divRt (subRt y p.y).1 (slR p q)).1).1 = true := lowRt_good1 ho
      have d := q_div g1 s2 (by omega) e2
      rw [q_sub hy gy e1] at d
      rw [q_unit g3, q_add gx g2 ho]
      have l1 := (q_lt gx gX).1 h
      have l2 : qR y ≤ qR p.y := Rat.not_lt.1 fun hh => h1 ((q_lt gy hy).2 hh)
      have l3 : qR q.y ≤ qR y := Rat.not_lt.1 fun hh => h2 ((q_lt hy gY).2 hh)
      have u1 := (q_unit gx).1 (coord_unit hp.1)
      have u2 := (q_unit gX).1 (coord_unit hq.1)
      have n1 : 0 ≤ qR (divRt (subRt y p.y).1 (slR p q)).1 := by
        by_cases h6 : qR (divRt (subRt y p.y).1 (slR p q)).1 < 0
        · have := Rat.mul_pos (show 0 < -qR (divRt (subRt y p.y).1 (slR p q)).1 by grind) (show 0 < -qR (slR p q) by grind); grind
        · grind
      have n2 : qR (divRt (subRt y p.y).1 (slR p q)).1 ≤ qR q.x - qR p.x := by
        by_cases h6 : qR q.x - qR p.x < qR (divRt (subRt y p.y).1 (slR p q)).1
        · have := Rat.mul_pos (show 0 < qR (divRt (subRt y p.y).1 (slR p q)).1 - (qR q.x - qR p.x) by grind) (show 0 < -qR (slR p q) by grind); grind
        · grind
      constructor <;> grind
theorem cmp_pos' {a b : Rt} (h : 0 < cmpRt a b) : ltR b a := by
  unfold cmpRt sgn at h
  show b.num * a.den < a.num * b.den
  split at h
  · omega
  · split at h
    · omega
    · omega
theorem cmp_neg' {a b : Rt} (h : cmpRt a b < 0) : ltR a b := cmpRt_neg.1 h
theorem nlt_of {a b : Rt} (h : ltR a b) : ¬ ltR b a := fun h2 => by
  have h : a.num * b.den < b.num * a.den := h
  have h2 : b.num * a.den < a.num * b.den := h2
  omega
theorem lt_trans' {a b c : Rt} (ha : goodRt a = true) (hb : goodRt b = true) (hc : goodRt c = true) (h1 : ltR a b) (h2 : ltR b c) : ltR a c := by
  have h3 := (q_lt ha hb).1 h1
  have h4 := (q_lt hb hc).1 h2
  exact (q_lt ha hc).2 (by grind)
theorem cross_unit {p q : Pt} {y : Rt} (hp : ptOk p = true) (hq : ptOk q = true) (h : ltR p.x q.x) (hy : goodRt y = true) (hc : crP p q y = true) (ho : (backR p (slR p q) y).2 = true) : unitRt (backR p (slR p q) y).1 = true := by
  have hc : cmpRt p.y y * cmpRt q.y y < 0 := of_decide_eq_true hc
  have gy := coord_good (ptOk_iff.1 hp).2
  have gY := coord_good (ptOk_iff.1 hq).2
  rcases cmp_1 p.y y with h1 | h1 | h1 <;> rcases cmp_1 q.y y with h2 | h2 | h2 <;> rw [h1, h2] at hc
  all_goals first | (exfalso; revert hc; decide) | skip
  · have a1 : ltR p.y y := cmp_neg' (by omega)
    have a2 : ltR y q.y := cmp_pos' (by omega)
    exact back_unit hp hq h (lt_trans' gy hy gY a1 a2) hy (nlt_of a1) (nlt_of a2) ho
  · have a1 : ltR y p.y := cmp_pos' (by omega)
    have a2 : ltR q.y y := cmp_neg' (by omega)
    exact back_unit_f hp hq h (lt_trans' gY hy gy a2 a1) hy (nlt_of a1) (nlt_of a2) ho

theorem bf_unit {f : List Pt} {y x : Rt} (hf : mapOk f = true) (hy : goodRt y = true) (hg : bfG f y = true) (hx : x ∈ bfO f y) : unitRt x = true := by
  unfold bfG at hg
  unfold bfO biRaw at hx
  obtain ⟨m1, m2, m3, m4, m5⟩ := mapOk_iff.1 hf
  rcases putsL_mem.1 hx with h | h
  · cases h
  · simp only [List.mem_flatMap, List.mem_range, biA, biB, List.mem_append, mem_bif] at h
    obtain ⟨i, hi, ⟨_, h2⟩ | ⟨h1, h2⟩⟩ := h
    · rw [h2]; exact coord_unit (ptOk_iff.1 (map_pt hf hi)).1
    · obtain ⟨k, rfl⟩ : ∃ k, i = k + 1 := ⟨i - 1, by
        rcases Nat.eq_zero_or_pos i with h0 | h0
        · rw [h0, biT_zero] at h1; cases h1
        · omega⟩
      have hg2 := biG_at hg k hi h1
      rw [biT_succ] at h1
      rw [biX_succ] at h2
      rw [h2, backO_t hg2]
      exact cross_unit (map_pt hf (by omega)) (map_pt hf hi) (m5 k hi) hy h1 hg2
theorem mapx_unit {f : List Pt} (hf : mapOk f = true) {x : Rt} (hx : x ∈ f.map Pt.x) : unitRt x = true := by
  obtain ⟨p, hp, rfl⟩ := List.mem_map.1 hx
  exact coord_unit (ptOk_iff.1 ((mapOk_iff.1 hf).2.1 p hp)).1
theorem bd_unit {f h : List Pt} {x : Rt} (hf : mapOk f = true) (hh : mapOk h = true) (hg : bdG f h = true) (hx : x ∈ bdO f h) : unitRt x = true := by
  unfold bdG at hg
  unfold bdO bdRaw at hx
  rcases putsL_mem.1 hx with h1 | h1
  · cases h1
  · rcases List.mem_append.1 h1 with h1 | h1
    · rcases List.mem_append.1 h1 with h1 | h1
      · exact mapx_unit hf h1
      · exact mapx_unit hh h1
    · simp only [List.mem_flatMap, List.mem_range] at h1
      obtain ⟨i, hi, h2⟩ := h1
      exact bf_unit hf (pt_gd hh hi) (bdG__at hg i hi) h2
theorem tp_unit {f g h : List Pt} {x : Rt} (hf : mapOk f = true) (hgm : mapOk g = true) (hc : chOk h = true) (hg : tpG f g h = true) (hx : x ∈ tpO f g h) : unitRt x = true := by
  have hh := (chOk_iff.1 hc).1
  unfold tpG at hg
  obtain ⟨g1, g2⟩ := tpG__at hg
  unfold tpO tpL at hx
  rcases putsL_mem.1 hx with h1 | h1
  · cases h1
  · rcases List.mem_append.1 h1 with h1 | h1
    · exact bd_unit hf hh g1 h1
    · obtain ⟨i, hi, rfl⟩ := List.mem_map.1 h1
      have hi := List.mem_range.1 hi
      rw [chO_t (g2 i hi)]
      exact chB_unit hc (coord_unit (ptOk_iff.1 (map_pt hgm hi)).1) (g2 i hi)

/-! ### a conjugacy -/
/-- a value of a value -/
@[irreducible] noncomputable def twR (f h : List Pt) (x : Rt) : Rt × Bool := match (vR f x).2 with
  | true => vR h (vR f x).1
  | false => (⟨0, 0⟩, false)
@[irreducible] noncomputable def twO (f h : List Pt) (x : Rt) : Rt := vO h (vO f x)
theorem twR_f {f h : List Pt} {x : Rt} (h1 : (vR f x).2 = false) : twR f h x = (⟨0, 0⟩, false) := by unfold twR; rw [h1]
theorem twR_t {f h : List Pt} {x : Rt} (h1 : (vR f x).2 = true) : twR f h x = vR h (vR f x).1 := by unfold twR; rw [h1]
theorem twR_g {f h : List Pt} {x : Rt} : (twR f h x).2 = ((vR f x).2 && (vR h (vO f x)).2) := by
  cases h1 : (vR f x).2 with
  | false => rw [twR_f h1]; rfl
  | true => rw [twR_t h1, ← vO_t h1]; rfl
theorem twO_t {f h : List Pt} {x : Rt} (h1 : (twR f h x).2 = true) : twO f h x = (twR f h x).1 := by
  have h2 := h1
  rw [twR_g, Bool.and_eq_true] at h2
  unfold twO
  rw [twR_t h2.1, ← vO_t h2.1, vO_t h2.2]
@[irreducible] noncomputable def icG (f g h : List Pt) (l : List Rt) (n : Nat) : Bool := (List.range n).all fun i => (twR f h (getA zR l i)).2 && (twR h g (getA zR l i)).2
theorem icG_zero (f g h : List Pt) (l : List Rt) : icG f g h l 0 = true := by unfold icG; rfl
theorem icG_succ (f g h : List Pt) (l : List Rt) (n : Nat) : icG f g h l (n + 1) = (icG f g h l n && ((twR f h (getA zR l n)).2 && (twR h g (getA zR l n)).2)) := by unfold icG; rw [List.range_succ, List.all_append]; simp
@[irreducible] noncomputable def icL (f g h : List Pt) (l : List Rt) (n : Nat) : Bool := (List.range n).all fun i => eqRt (twO f h (getA zR l i)) (twO h g (getA zR l i))
theorem icL_zero (f g h : List Pt) (l : List Rt) : icL f g h l 0 = true := by unfold icL; rfl
theorem icL_succ (f g h : List Pt) (l : List Rt) (n : Nat) : icL f g h l (n + 1) = (icL f g h l n && eqRt (twO f h (getA zR l n)) (twO h g (getA zR l n))) := by unfold icL; rw [List.range_succ, List.all_append]; simp
theorem icG_at {f g h : List Pt} {l : List Rt} : ∀ {n : Nat}, icG f g h l n = true → ∀ i, i < n → (twR f h (getA zR l i)).2 = true ∧ (twR h g (getA zR l i)).2 = true
  | 0, _, i, hi => by omega
  | n + 1, hg, i, hi => by
    rw [icG_succ, Bool.and_eq_true, Bool.and_eq_true] at hg
    by_cases e : i = n
    · rw [e]; exact hg.2
    · exact icG_at hg.1 i (by omega)
theorem icG_f {f g h : List Pt} {l : List Rt} {i n : Nat} (hi : i < n) (hb : (twR f h (getA zR l i)).2 = false ∨ (twR h g (getA zR l i)).2 = false) : icG f g h l n = false := by
  cases hg : icG f g h l n
  · rfl
  · have := icG_at hg i hi
    rcases hb with hb | hb
    · rw [this.1] at hb; cases hb
    · rw [this.2] at hb; cases hb
theorem ic_flag {f g h : List Pt} {l : List Rt} {i : Nat} : ((((!icG f g h l i || !(vR f (getA zR l i)).2) || !(vR h (vO f (getA zR l i))).2) || !(vR h (getA zR l i)).2) || !(vR g (vO h (getA zR l i))).2) = !icG f g h l (i + 1) := by
  rw [icG_succ, twR_g, twR_g]
  generalize icG f g h l i = a
  generalize (vR f (getA zR l i)).2 = b
  generalize (vR h (vO f (getA zR l i))).2 = c
  generalize (vR h (getA zR l i)).2 = d
  generalize (vR g (vO h (getA zR l i))).2 = e
  cases a <;> cases b <;> cases c <;> cases d <;> cases e <;> rfl
noncomputable def icsR (f g h : List Pt) : Bool × Bool := match icG f g h (tpO f g h) (tpO f g h).length with
  | true => (icL f g h (tpO f g h) (tpO f g h).length, true)
  | false => (false, false)
noncomputable def icR (f g h : List Pt) : Bool × Bool := match tpG f g h with
  | true => icsR f g h
  | false => (false, false)
noncomputable def cjRes (f g h : List Pt) : Bool × Bool := match tpsOk f g h with
  | true => icR f g h
  | false => (false, false)
theorem icR_t {f g h : List Pt} (h1 : tpG f g h = true) : icR f g h = icsR f g h := by unfold icR; rw [h1]
theorem icR_f {f g h : List Pt} (h1 : tpG f g h = false) : icR f g h = (false, false) := by unfold icR; rw [h1]
theorem icsR_t {f g h : List Pt} (h1 : icG f g h (tpO f g h) (tpO f g h).length = true) : icsR f g h = (icL f g h (tpO f g h) (tpO f g h).length, true) := by unfold icsR; rw [h1]
theorem icsR_f {f g h : List Pt} (h1 : icG f g h (tpO f g h) (tpO f g h).length = false) : icsR f g h = (false, false) := by unfold icsR; rw [h1]
theorem cjRes_t {f g h : List Pt} (h1 : tpsOk f g h = true) : cjRes f g h = icR f g h := by unfold cjRes; rw [h1]
theorem cjRes_f {f g h : List Pt} (h1 : tpsOk f g h = false) : cjRes f g h = (false, false) := by unfold cjRes; rw [h1]
theorem tpsR_ok {f g h : List Pt} (h1 : (tpsR f g h).2 = true) : tpsOk f g h = true ∧ tpG f g h = true ∧ (tpsR f g h).1 = tpO f g h := by
  cases h2 : tpsOk f g h with
  | false => unfold tpsR at h1; rw [h2] at h1; cases h1
  | true =>
    obtain ⟨a, b, c⟩ := tpsOk_iff.1 h2
    rw [tpsR_t a b c] at h1 ⊢
    have h3 := h1
    rw [tpR_2] at h3
    exact ⟨rfl, h3, by rw [tpR_t h3]⟩
theorem tpsR_no {f g h : List Pt} (h1 : (tpsR f g h).2 = false) : cjRes f g h = (false, false) := by
  cases h2 : tpsOk f g h with
  | false => exact cjRes_f h2
  | true =>
    obtain ⟨a, b, c⟩ := tpsOk_iff.1 h2
    rw [tpsR_t a b c, tpR_2] at h1
    rw [cjRes_t h2, icR_f h1]
end Go.Vx
