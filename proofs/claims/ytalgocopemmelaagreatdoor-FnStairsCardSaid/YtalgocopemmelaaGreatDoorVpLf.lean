/- Lifts: plain facts. -/
import Derived.Test.YtalgocopemmelaaGreatDoorVpMap
namespace Go.Vx
open Go
set_option maxRecDepth 100000
set_option linter.unusedSimpArgs false
set_option linter.unusedVariables false

noncomputable def lpOk (q : Pt) : Bool := coordRt q.x && (goodRt q.y && (decide (q.y.den ≤ 100) && inB q.y.num (-5 * q.y.den) (5 * q.y.den)))
theorem lpOk_iff {q : Pt} : lpOk q = true ↔ (coordRt q.x = true ∧ goodRt q.y = true ∧ q.y.den ≤ 100 ∧ -5 * q.y.den ≤ q.y.num ∧ q.y.num ≤ 5 * q.y.den) := by
  unfold lpOk inB
  simp only [Bool.and_eq_true, decide_eq_true_eq]
noncomputable def liftP (f : List Pt) : Prop := (2 ≤ f.length ∧ f.length ≤ 12) ∧ (∀ i, i < f.length → lpOk (getA zP f i) = true) ∧ (∀ i, i + 1 < f.length → ltR (getA zP f i).x (getA zP f (i + 1)).x ∧ ¬ ltR (getA zP f (i + 1)).y (getA zP f i).y) ∧
  (getA zP f 0).x = ⟨0, 1⟩ ∧ (getA zP f (f.length - 1)).x = ⟨1, 1⟩ ∧ (getA zP f (f.length - 1)).y = ⟨(getA zP f 0).y.num + (getA zP f 0).y.den, (getA zP f 0).y.den⟩
open Classical in
noncomputable def liftOk (f : List Pt) : Bool := decide (liftP f)
theorem liftOk_iff {f : List Pt} : liftOk f = true ↔ liftP f := by unfold liftOk; simp
theorem lift_no {f : List Pt} (h : ¬ liftP f) : false = liftOk f := by
  symm; rw [Bool.eq_false_iff]; exact fun h2 => h (liftOk_iff.1 h2)
theorem lift_yes {f : List Pt} (h : liftP f) : true = liftOk f := (liftOk_iff.2 h).symm
abbrev gP (f : List Pt) (i : Nat) : Pt := getA VK.pt.dflt f i
theorem lift_fin {f : List Pt} (hb : 2 ≤ (f.length : Int) ∧ (f.length : Int) ≤ 12) (hq : ∀ i, i < f.length → lpOk (getA zP f i) = true) (g : ∀ i, i + 1 < f.length → ltR (getA zP f i).x (getA zP f (i + 1)).x ∧ ¬ ltR (getA zP f (i + 1)).y (getA zP f i).y) :
    liftOk f = (eqRt (getA zP f 0).x ⟨0, 1⟩ && (eqRt (getA zP f (f.length - 1)).x ⟨1, 1⟩ && eqRt (getA zP f (f.length - 1)).y ⟨(getA zP f 0).y.num + (getA zP f 0).y.den, (getA zP f 0).y.den⟩)) := by
  unfold eqRt
  rw [Bool.eq_iff_iff, liftOk_iff, Bool.and_eq_true, Bool.and_eq_true, decide_eq_true_eq, decide_eq_true_eq, decide_eq_true_eq]
  constructor
  · intro h; exact h.2.2.2
  · intro h; exact ⟨by omega, hq, g, h⟩
theorem fin3 {M A B C : Bool} (e : M = (A && (B && C))) : (bif (bif A then B else false) then C else false) = M := by subst e; cases A <;> cases B <;> rfl
theorem fin4 {M A B C : Bool} (e : M = (A && (B && C))) (h : (bif A then B else false) = false) : false = M := by subst e; revert h; cases A <;> cases B <;> simp
theorem fin5 {M A B C : Bool} (e : M = (A && (B && C))) (h : A = false) : false = M := by subst e; subst h; rfl
noncomputable def farRt (x : Rt) : Bool := goodRt x && inB x.num (-1000 * x.den) (1000 * x.den)
theorem far_good {x : Rt} (h : farRt x = true) : goodRt x = true := by
  unfold farRt at h; rw [Bool.and_eq_true] at h; exact h.1
/-- a lift turned -/
noncomputable def tuL (f : List Pt) (y : Rt) : List Pt := f.map fun p => ⟨p.x, opR (addRt p.y y)⟩
theorem tuL_length (f : List Pt) (y : Rt) : (tuL f y).length = f.length := by simp [tuL]
noncomputable def tuOk (f : List Pt) (y : Rt) : Bool := f.all fun p => (addRt p.y y).2
noncomputable def tuR (f : List Pt) (y : Rt) : List Pt × Bool := match tuOk f y && liftOk (tuL f y) with
  | true => (tuL f y, true)
  | false => ([], false)
theorem tuL_succ {f : List Pt} {y : Rt} {i : Nat} (h : i < f.length) : tuL (f.take i) y ++ [⟨(getA zP f i).x, opR (addRt (getA zP f i).y y)⟩] = tuL (f.take (i + 1)) y := by
  unfold tuL
  rw [List.take_add_one, List.map_append, List.getElem?_eq_getElem h, getA_lt _ _ _ h]; rfl
theorem tuOk_succ {f : List Pt} {y : Rt} {i : Nat} (h : i < f.length) : tuOk (f.take (i + 1)) y = (tuOk (f.take i) y && (addRt (getA zP f i).y y).2) := by
  unfold tuOk
  rw [List.take_add_one, List.all_append, List.getElem?_eq_getElem h, getA_lt _ _ _ h]; simp
theorem tuOk_not {f : List Pt} {y : Rt} {i : Nat} (h : i < f.length) (h2 : (addRt (getA zP f i).y y).2 = false) : tuOk f y = false := by
  unfold tuOk
  rw [List.all_eq_false]
  exact ⟨_, getA_mem zP h, by rw [h2]; decide⟩
theorem tuR_f {f : List Pt} {y : Rt} (h : (tuOk f y && liftOk (tuL f y)) = false) : tuR f y = ([], false) := by unfold tuR; rw [h]
theorem tuR_t {f : List Pt} {y : Rt} (h : (tuOk f y && liftOk (tuL f y)) = true) : tuR f y = (tuL f y, true) := by unfold tuR; rw [h]
theorem tuR_len {f : List Pt} {y : Rt} (h : f.length ≤ 12) : (tuR f y).1.length ≤ 12 := by
  cases hc : (tuOk f y && liftOk (tuL f y)) with
  | true => rw [tuR_t hc]; rw [tuL_length]; exact h
  | false => rw [tuR_f hc]; exact Nat.zero_le _
/-- the fraction of a family's lift lies in 0..1 -/
theorem fam_low {i d : Int} (h1 : 1 ≤ d) (h2 : d ≤ 20) (h3 : 0 ≤ i) (h4 : i ≤ d) : (lowRt i d).2 = true ∧ goodRt (lowRt i d).1 = true ∧ farRt (lowRt i d).1 = true := by
  have s := low_small (n := i) (d := d) (by omega) (by omega) (by omega)
  have g := lowRt_good1 s
  have b := low_bd s
  have p := goodRt_iff.1 g
  refine ⟨s, g, ?_⟩
  unfold farRt inB
  rw [g, Bool.true_and, decide_eq_true_eq]
  omega
noncomputable def famR (f : List Pt) (i d : Int) : List Pt × Bool := match liftOk f && (inB d 1 20 && inB i 0 d) with
  | true => tuR f (lowRt i d).1
  | false => ([], false)
theorem famR_f {f : List Pt} {i d : Int} (h : (liftOk f && (inB d 1 20 && inB i 0 d)) = false) : famR f i d = ([], false) := by unfold famR; rw [h]
theorem famR_t {f : List Pt} {i d : Int} (h : (liftOk f && (inB d 1 20 && inB i 0 d)) = true) : famR f i d = tuR f (lowRt i d).1 := by unfold famR; rw [h]
theorem famR_len (f : List Pt) (i d : Int) : (famR f i d).1.length ≤ 12 := by
  cases hc : (liftOk f && (inB d 1 20 && inB i 0 d)) with
  | false => rw [famR_f hc]; exact Nat.zero_le _
  | true => rw [famR_t hc]; exact tuR_len (liftOk_iff.1 (by revert hc; cases liftOk f <;> simp)).1.2
end Go.Vx
