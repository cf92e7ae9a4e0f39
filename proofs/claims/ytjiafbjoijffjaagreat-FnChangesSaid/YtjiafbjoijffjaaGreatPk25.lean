/- Helpers of the laws of return maps and changes. -/
import Derived.Test.YtjiafbjoijffjaaGreatPk16
import Derived.Test.YtjiafbjoijffjaaGreatPk17
import Derived.Test.YtjiafbjoijffjaaGreatPk15
import Derived.Test.YtjiafbjoijffjaaGreatPk20
import Derived.Test.YtjiafbjoijffjaaGreatPk24
import Derived.Test.YtjiafbjoijffjaaGreatPk12
namespace Go.Vx
open Go Go.Proofs
set_option maxRecDepth 100000
set_option linter.unusedSimpArgs false
set_option linter.unusedVariables false

/-- the fraction behind n steps -/
noncomputable def orS (f : List Pt) (r : Rt × Bool) : Rt × Bool := match r.2 with
  | true => vR f r.1
  | false => (⟨0, 0⟩, false)
noncomputable def orQ (f : List Pt) (x : Rt) : Nat → Rt × Bool
  | 0 => (x, true)
  | n + 1 => orS f (orQ f x n)
@[irreducible] noncomputable def orR (f : List Pt) (x : Rt) (n : Nat) : Rt × Bool := orQ f x n
theorem orR_zero (f : List Pt) (x : Rt) : orR f x 0 = (x, true) := by unfold orR; rfl
theorem orR_t {f : List Pt} {x : Rt} {n : Nat} (h : (orR f x n).2 = true) : orR f x (n + 1) = vR f (orR f x n).1 := by
  unfold orR at h ⊢
  show orS f (orQ f x n) = _
  unfold orS; rw [h]
theorem orR_f {f : List Pt} {x : Rt} {n : Nat} (h : (orR f x n).2 = false) : orR f x (n + 1) = (⟨0, 0⟩, false) := by
  unfold orR at h ⊢
  show orS f (orQ f x n) = _
  unfold orS; rw [h]
theorem orR_bad {f : List Pt} {x : Rt} {n : Nat} (h : (orR f x n).2 = false) : orR f x n = (⟨0, 0⟩, false) := by
  cases n with
  | zero => rw [orR_zero] at h; cases h
  | succ n =>
    cases hn : (orR f x n).2 with
    | false => exact orR_f hn
    | true => rw [orR_t hn] at h ⊢; exact vR_bad h
theorem orR_stay {f : List Pt} {x : Rt} {k : Nat} (h : (orR f x k).2 = false) : ∀ {n : Nat}, k ≤ n → (orR f x n).2 = false
  | n, hn => by
    induction n with
    | zero => rw [show k = 0 by omega, orR_zero] at h; cases h
    | succ n ih =>
      rcases Nat.lt_or_eq_of_le hn with h1 | h1
      · rw [orR_f (ih (by omega))]
      · subst h1; exact h
theorem orR_unit {f : List Pt} {x : Rt} (hf : mapOk f = true) (hx : unitRt x = true) : ∀ {n : Nat}, (orR f x n).2 = true → unitRt (orR f x n).1 = true
  | 0, _ => by rw [orR_zero]; exact hx
  | n + 1, h => by
    cases hn : (orR f x n).2 with
    | false => rw [orR_f hn] at h; cases h
    | true => rw [orR_t hn] at h ⊢; exact vR_unit hf (orR_unit hf hx hn) h
theorem orR_q {f : List Pt} {x : Rt} (hf : mapOk f = true) (hx : unitRt x = true) : ∀ {n : Nat}, (orR f x n).2 = true → qR (orR f x n).1 = itv f n (qR x)
  | 0, _ => by rw [orR_zero]; rfl
  | n + 1, h => by
    cases hn : (orR f x n).2 with
    | false => rw [orR_f hn] at h; cases h
    | true =>
      rw [orR_t hn] at h ⊢
      rw [vR_q hf (orR_unit hf hx hn) h, orR_q hf hx hn]; rfl
/-- the first n + 1 fractions -/
@[irreducible] noncomputable def orL (f : List Pt) (x : Rt) (n : Nat) : List Rt := (List.range (n + 1)).map fun k => (orR f x k).1
theorem orL_zero (f : List Pt) (x : Rt) : orL f x 0 = [x] := by unfold orL; simp [orR_zero]
theorem orL_succ (f : List Pt) (x : Rt) (n : Nat) : orL f x (n + 1) = orL f x n ++ [(orR f x (n + 1)).1] := by unfold orL; rw [List.range_succ, List.map_append]; rfl
theorem orL_len (f : List Pt) (x : Rt) (n : Nat) : (orL f x n).length = n + 1 := by unfold orL; simp
theorem orL_last (f : List Pt) (x : Rt) (n : Nat) : getA zR (orL f x n) n = (orR f x n).1 := by
  unfold orL
  rw [getA_eq]; simp [List.getD]
/-- how many steps can be made, within n -/
@[irreducible] noncomputable def orN (f : List Pt) (x : Rt) : Nat → Nat
  | 0 => 0
  | n + 1 => match (orR f x (n + 1)).2 with
    | true => n + 1
    | false => orN f x n
theorem orN_t {f : List Pt} {x : Rt} {n : Nat} (h : (orR f x n).2 = true) : orN f x n = n := by
  cases n with
  | zero => unfold orN; rfl
  | succ n => unfold orN; rw [h]
theorem orN_le (f : List Pt) (x : Rt) : ∀ n, orN f x n ≤ n
  | 0 => by unfold orN; exact Nat.le_refl _
  | n + 1 => by
    unfold orN
    have := orN_le f x n
    split <;> omega
theorem orN_f {f : List Pt} {x : Rt} {k : Nat} (h1 : (orR f x k).2 = true) (h2 : (orR f x (k + 1)).2 = false) : ∀ {n : Nat}, k ≤ n → orN f x n = k
  | n, hn => by
    induction n with
    | zero => rw [show k = 0 by omega]; unfold orN; rfl
    | succ n ih =>
      rcases Nat.lt_or_eq_of_le hn with h3 | h3
      · have h4 := orR_stay h2 (n := n + 1) (by omega)
        unfold orN
        rw [h4]
        exact ih (by omega)
      · subst h3; exact orN_t h1
/-- IterateMap -/
noncomputable def stOk (f : List Pt) (x : Rt) (n : Int) : Bool := mapOk f && (unitRt x && inB n 0 60)
theorem stOk_iff {f : List Pt} {x : Rt} {n : Int} : stOk f x n = true ↔ (mapOk f = true ∧ unitRt x = true ∧ 0 ≤ n ∧ n ≤ 60) := by
  unfold stOk inB
  simp only [Bool.and_eq_true, decide_eq_true_eq]
noncomputable def itRes (f : List Pt) (x : Rt) (n : Int) : Rt × Bool := match stOk f x n with
  | true => orR f x n.toNat
  | false => (⟨0, 0⟩, false)
theorem it_f1 {f : List Pt} {x : Rt} {n : Int} (h : mapOk f = false) : itRes f x n = (⟨0, 0⟩, false) := by unfold itRes stOk; rw [h]; rfl
theorem it_f2 {f : List Pt} {x : Rt} {n : Int} (h : unitRt x = false) : itRes f x n = (⟨0, 0⟩, false) := by unfold itRes stOk; rw [h]; cases mapOk f <;> rfl
theorem it_f3 {f : List Pt} {x : Rt} {n : Int} (h : inB n 0 60 = false) : itRes f x n = (⟨0, 0⟩, false) := by unfold itRes stOk; rw [h]; cases mapOk f <;> cases unitRt x <;> rfl
theorem it_t' {f : List Pt} {x : Rt} {n : Int} (h1 : mapOk f = true) (h2 : unitRt x = true) (h3 : inB n 0 60 = true) : itRes f x n = orR f x n.toNat := by unfold itRes stOk; rw [h1, h2, h3]; rfl
theorem it_t {f : List Pt} {x : Rt} {n : Int} (h1 : mapOk f = true) (h2 : unitRt x = true) (h3 : 0 ≤ n) (h4 : n ≤ 60) : itRes f x n = orR f x n.toNat := it_t' h1 h2 (by unfold inB; simp [h3, h4])
theorem it_ok {f : List Pt} {x : Rt} {n : Int} (h : (itRes f x n).2 = true) : mapOk f = true ∧ unitRt x = true ∧ qR (itRes f x n).1 = itv f n.toNat (qR x) := by
  cases h1 : mapOk f with
  | false => rw [it_f1 h1] at h; cases h
  | true =>
    cases h2 : unitRt x with
    | false => rw [it_f2 h2] at h; cases h
    | true =>
      cases h3 : inB n 0 60 with
      | false => rw [it_f3 h3] at h; cases h
      | true =>
        rw [it_t' h1 h2 h3] at h ⊢
        exact ⟨rfl, rfl, orR_q h1 h2 h⟩
/-- ValueAt -/
noncomputable def vaRes (f : List Pt) (x : Rt) : Rt × Bool := match mapOk f && unitRt x with
  | true => vR f x
  | false => (⟨0, 0⟩, false)
theorem va_f1 {f : List Pt} {x : Rt} (h : mapOk f = false) : vaRes f x = (⟨0, 0⟩, false) := by unfold vaRes; rw [h]; rfl
theorem va_f2 {f : List Pt} {x : Rt} (h : unitRt x = false) : vaRes f x = (⟨0, 0⟩, false) := by unfold vaRes; rw [h, Bool.and_false]
theorem va_t {f : List Pt} {x : Rt} (h1 : mapOk f = true) (h2 : unitRt x = true) : vaRes f x = vR f x := by unfold vaRes; rw [h1, h2]; rfl
noncomputable def s_impl_orbit : Sig := ⟨193, [.list .pt, .val .rat, .val NI], [.list 26 .rat], fun ((f : List Pt), (x : Rt), (n : Int), _) => ⟨[mapOk f = true, unitRt x = true, 0 ≤ n, n ≤ 60], (orL f x (orN f x n.toNat), ()), ()⟩⟩
theorem ok_impl_orbit : GSpec Tryz.prog s_impl_orbit := by
  refine fn_known tab_ok fol (Known.nil.cons ok_calc_value (by kernel_rfl)) (by decide) Tryz.func193 ?_
  rintro ⟨(f : List Pt), ⟨(n : Int), (d : Int)⟩, (k : Int), ⟨⟩⟩ ⟨hl, _⟩ ⟨h1, h2, h3, h4, _⟩
  have h3 : 0 ≤ k := h3
  have h4 : k ≤ 60 := h4
  generalize hx : (⟨n, d⟩ : Rt) = x at *
  have e0 : x = ⟨x.num, x.den⟩ := rfl
  have en : n = x.num := by rw [← hx]
  have ed : d = x.den := by rw [← hx]
  subst en ed
  refine ⟨Nat, fun i => ⟨[(12, .sc (.num .i64 i)), (7, .sc (.own 7777777))], [100000], [(7777777, .row 26 .rat (orL f x i)), (4, .box 26 [.num .i64 (orR f x i).1.num, .num .i64 (orR f x i).1.den]), (8, .box cT [.bool false])]⟩, fun i => i ≤ k.toNat ∧ (orR f x i).2 = true, fun i => k.toNat - i, ⟨0, ⟨Nat.zero_le _, by rw [orR_zero]⟩, ?_⟩, ?_⟩
  · have e1 := orL_zero f x
    have e2 := orR_zero f x
    repeat' (first | apply And.intro | exact True.intro | exact Lf.mk (by with_reducible rfl) | apply Lf.mk)
    all_goals first | rfl | exact e1.symm | (rw [e2]; done) | trace_state
  · rintro i ⟨g1, g2⟩
    have q1 := orL_len f x i
    have q2 := orR_unit h1 h2 g2
    have q3 := orL_succ f x i
    have q4 := orR_t g2
    have er : (⟨(orR f x i).1.num, (orR f x i).1.den⟩ : Rt) = (orR f x i).1 := rfl
    repeat' (first | with_reducible apply andAll_cons | with_reducible apply andAll_nil | (with_reducible apply Cf.mk; kernel_rfl) | apply And.intro | intro _ | exact True.intro | apply Lf.mk)
    all_goals (try simp only [er] at *)
    all_goals (try simp only [Bool.not_eq_true', Bool.not_eq_false', Bool.not_not, decide_eq_true_eq, decide_eq_false_iff_not, beq_iff_eq, bne_iff_ne, beq_eq_false_iff_ne, bne_eq_false_iff_eq, ne_eq, Bool.and_eq_true, Bool.and_eq_false_iff, Bool.or_eq_true, Bool.or_eq_false_iff, Int.toNat_natCast, Nat.zero_add, Int.ofNat_lt, Int.ofNat_le, List.length_cons, List.length_nil, List.drop_zero, List.take_length] at *)
    all_goals first | omega | exact h1 | exact q2 | (show (_ + 1) * 16 ≤ 140737488355328; omega) | skip
    all_goals first
      | (have hb : (vR f (orR f x i).1).2 = false := (by assumption : false = true ∨ _).resolve_left Bool.noConfusion
         rw [orN_f g2 (by rw [q4]; exact hb) g1]
         done)
      | (have hb : (vR f (orR f x i).1).2 = true := (by assumption : True ∧ _).2
         have h7 : (orR f x (i + 1)).2 = true := by rw [q4]; exact hb
         have h8 : (orR f x (i + 1)).1 = vO f (orR f x i).1 := by rw [q4, vO_t hb]
         refine ⟨i + 1, ⟨by omega, h7⟩, by omega, ?_⟩
         rw [h8] at q3
         repeat' (first | apply And.intro | exact True.intro | exact Lf.mk (by with_reducible rfl) | apply Lf.mk)
         all_goals first | rfl | exact q3.symm | (rw [Int.natCast_add]; rfl) | (rw [h8]; done) | (rw [hb]; rfl) | trace_state)
      | (rw [orN_t (by rw [show k.toNat = i by omega]; exact g2), show k.toNat = i by omega]; done)
      | trace_state
noncomputable def s_impl_isStart : Sig := ⟨192, [.list .pt, .val .rat, .val NI], [.val .bool], fun ((f : List Pt), (x : Rt), (n : Int), _) => ⟨[], (stOk f x n, ()), ()⟩⟩
theorem ok_impl_isStart : GSpec Tryz.prog s_impl_isStart := by
  refine fn_known tab_ok fol (((Known.nil.cons ok_impl_isMap (by kernel_rfl)).cons ok_impl_isUnit (by kernel_rfl)).cons ok_impl_within (by kernel_rfl)) (by decide) Tryz.func192 ?_
  rintro ⟨(f : List Pt), ⟨(n : Int), (d : Int)⟩, (k : Int), ⟨⟩⟩ - -
  repeat' (first | with_reducible apply andAll_cons | with_reducible apply andAll_nil | (with_reducible apply Cf.mk; kernel_rfl) | apply And.intro | intro _ | exact True.intro | apply Lf.mk)
  all_goals (try simp only [Bool.not_eq_true', Bool.not_eq_false', Bool.not_not, decide_eq_true_eq, decide_eq_false_iff_not, beq_iff_eq, bne_iff_ne, beq_eq_false_iff_ne, bne_eq_false_iff_eq, ne_eq, Bool.and_eq_true, Bool.and_eq_false_iff, Bool.or_eq_true, Bool.or_eq_false_iff, Int.toNat_natCast, Nat.zero_add, Int.ofNat_lt, Int.ofNat_le, List.length_cons, List.length_nil, List.drop_zero, List.take_length] at *)
  all_goals first | (simp_all [stOk]; done) | trace_state
noncomputable def s_impl_OrbitOf : Sig := ⟨123, [.list .pt, .val .rat, .val NI], [.list 26 .rat, .val .bool], fun ((f : List Pt), (x : Rt), (n : Int), _) => ⟨[], ((bif (itRes f x n).2 then orL f x n.toNat else []), (itRes f x n).2, ()), ()⟩⟩
theorem orN_lt {f : List Pt} {x : Rt} {n : Nat} (h : (orR f x n).2 = false) : orN f x n < n := by
  cases n with
  | zero => rw [orR_zero] at h; cases h
  | succ n =>
    unfold orN
    rw [h]
    have := orN_le f x n
    dsimp only
    omega
theorem ok_impl_OrbitOf : GSpec Tryz.prog s_impl_OrbitOf := by
  refine fn_known tab_ok fol ((Known.nil.cons ok_impl_isStart (by kernel_rfl)).cons ok_impl_orbit (by kernel_rfl)) (by decide) Tryz.func123 ?_
  rintro ⟨(f : List Pt), ⟨(n : Int), (d : Int)⟩, (k : Int), ⟨⟩⟩ ⟨hl, _⟩ -
  have r1 : stOk f ⟨n, d⟩ k = false → itRes f ⟨n, d⟩ k = (⟨0, 0⟩, false) := fun h => by unfold itRes; rw [h]
  have r2 : stOk f ⟨n, d⟩ k = true → mapOk f = true ∧ unitRt ⟨n, d⟩ = true ∧ 0 ≤ k ∧ k ≤ 60 ∧ itRes f ⟨n, d⟩ k = orR f ⟨n, d⟩ k.toNat := fun h => by
    have h' := stOk_iff.1 h
    exact ⟨h'.1, h'.2.1, h'.2.2.1, h'.2.2.2, by unfold itRes; rw [h]⟩
  have hlen := orL_len f ⟨n, d⟩ (orN f ⟨n, d⟩ k.toNat)
  have hle := orN_le f ⟨n, d⟩ k.toNat
  repeat' (first | with_reducible apply andAll_cons | with_reducible apply andAll_nil | (with_reducible apply Cf.mk; kernel_rfl) | apply And.intro | intro _ | exact True.intro | apply Lf.mk)
  all_goals (try simp only [Bool.not_eq_true', Bool.not_eq_false', Bool.not_not, decide_eq_true_eq, decide_eq_false_iff_not, beq_iff_eq, bne_iff_ne, beq_eq_false_iff_ne, bne_eq_false_iff_eq, ne_eq, Bool.and_eq_true, Bool.and_eq_false_iff, Bool.or_eq_true, Bool.or_eq_false_iff, Int.toNat_natCast, Nat.zero_add, Int.ofNat_lt, Int.ofNat_le, List.length_cons, List.length_nil, List.drop_zero, List.take_length] at *)
  all_goals first | exact (r2 (by assumption)).1 | exact (r2 (by assumption)).2.1 | exact (r2 (by assumption)).2.2.1 | exact (r2 (by assumption)).2.2.2.1 | (rw [r1 (by assumption)]; done) | (rw [r1 (by assumption)]; rfl) | skip
  all_goals (have hq := r2 (by assumption))
  all_goals (obtain ⟨w1, w2, w3, w4, w5⟩ := hq)
  all_goals (cases hb : (orR f ⟨n, d⟩ k.toNat).2)
  all_goals (first | (have hn := orN_lt hb) | (have hn := orN_t hb))
  all_goals first | omega | (exfalso; omega) | (rw [w5, hb]; done) | (rw [w5, hb]; rfl) | (rw [w5, hb, hn]; rfl) | trace_state
noncomputable def s_impl_IterateMap : Sig := ⟨48, [.list .pt, .val .rat, .val NI], [.val .rat, .val .bool], fun ((f : List Pt), (x : Rt), (n : Int), _) => ⟨[], ((itRes f x n).1, (itRes f x n).2, ()), ()⟩⟩
theorem it_bad {f : List Pt} {x : Rt} {n : Int} (h : (itRes f x n).2 = false) : itRes f x n = (⟨0, 0⟩, false) := by
  unfold itRes at h ⊢
  split at h
  · exact orR_bad h
  · rfl
theorem it_at {f : List Pt} {x : Rt} {n : Int} (h : (itRes f x n).2 = true) : 0 ≤ n ∧ getA zR (orL f x n.toNat) n.toNat = (itRes f x n).1 := by
  unfold itRes at h ⊢
  split at h
  · rename_i hc
    rw [orL_last]
    exact ⟨(stOk_iff.1 hc).2.2.1, rfl⟩
  · cases h
theorem ok_impl_IterateMap : GSpec Tryz.prog s_impl_IterateMap := by
  refine fn_known tab_ok fol (Known.nil.cons ok_impl_OrbitOf (by kernel_rfl)) (by decide) Tryz.func48 ?_
  rintro ⟨(f : List Pt), ⟨(n : Int), (d : Int)⟩, (k : Int), ⟨⟩⟩ ⟨hl, _⟩ -
  have hlen := orL_len f ⟨n, d⟩ k.toNat
  repeat' (first | with_reducible apply andAll_cons | with_reducible apply andAll_nil | (with_reducible apply Cf.mk; kernel_rfl) | apply And.intro | intro _ | exact True.intro | apply Lf.mk)
  all_goals (try simp only [Bool.not_eq_true', Bool.not_eq_false', Bool.not_not, decide_eq_true_eq, decide_eq_false_iff_not, beq_iff_eq, bne_iff_ne, beq_eq_false_iff_ne, bne_eq_false_iff_eq, ne_eq, Bool.and_eq_true, Bool.and_eq_false_iff, Bool.or_eq_true, Bool.or_eq_false_iff, Int.toNat_natCast, Nat.zero_add, Int.ofNat_lt, Int.ofNat_le, List.length_cons, List.length_nil, List.drop_zero, List.take_length] at *)
  all_goals first | (rw [it_bad (by assumption)]; done) | skip
  all_goals (have ht : (itRes f ⟨n, d⟩ k).2 = true := (by assumption))
  all_goals (have hc := it_at ht)
  all_goals (try simp only [ht, cond_true] at *)
  all_goals first | omega | exact hc.2 | trace_state
end Go.Vx
namespace Go.Vx
open Go
set_option maxRecDepth 100000
set_option linter.unusedSimpArgs false
set_option linter.unusedVariables false

/-- what has a fraction's value becomes that fraction in lowest terms -/
theorem low_of {n d : Int} {r : Rt} (hr : goodRt r = true) (hd : 0 < d) (h : n * r.den = r.num * d) : lowRt n d = (r, true) := by
  have g := goodRt_iff.1 hr
  have hdv : r.den ∣ d := dvd_cop (b := r.num) (by omega) (by rw [← h]; exact Int.dvd_mul_left _ _)
  obtain ⟨k, hk⟩ := hdv
  have hk0 : 0 < k := by
    rcases Int.lt_or_le 0 k with h1 | h1
    · exact h1
    · have := Int.mul_nonpos_of_nonneg_of_nonpos (show 0 ≤ r.den by omega) h1
      omega
  have hn : n = r.num * k := by
    refine Int.eq_of_mul_eq_mul_right (a := r.den) (by omega) ?_
    rw [h, hk, Int.mul_assoc, Int.mul_comm r.den k]
  have hg : gsgn n d = k := by
    unfold gsgn
    rw [if_neg (by omega), hn, hk, Int.gcd_mul_right]
    have : Int.gcd r.num r.den = 1 := by omega
    rw [this]
    omega
  have e : (⟨n.tdiv (gsgn n d), d.tdiv (gsgn n d)⟩ : Rt) = r := by
    rw [hg, hn, hk, Int.mul_tdiv_cancel _ (by omega), Int.mul_tdiv_cancel _ (by omega)]
  rw [lowRt_t (by rw [e]; exact hr), e]
theorem q_cross {n d : Int} {r : Rt} (hr : goodRt r = true) (hd : 0 < d) (h : (n : Rat) / (d : Rat) = qR r) : n * r.den = r.num * d := by
  have h1 := den_pos hr
  have h2 : (0 : Rat) < (d : Rat) := Rat.intCast_pos.2 hd
  unfold qR at h
  have : ((n * r.den : Int) : Rat) = ((r.num * d : Int) : Rat) := by
    rw [Rat.intCast_mul, Rat.intCast_mul]
    grind
  exact Rat.intCast_inj.1 this
theorem low_q {n d : Int} {r : Rt} (hr : goodRt r = true) (hd : 0 < d) (h : (n : Rat) / (d : Rat) = qR r) : lowRt n d = (r, true) := low_of hr hd (q_cross hr hd h)
theorem mul_to {a b r : Rt} (ha : goodRt a = true) (hb : goodRt b = true) (hr : goodRt r = true) (h : qR a * qR b = qR r) : mulRt a b = (r, true) := by
  have h1 := (denmul ha hb).1
  have h2 := den_pos ha
  have h3 := den_pos hb
  unfold mulRt
  refine low_q hr h1 ?_
  rw [← h]
  unfold qR
  rw [Rat.intCast_mul, Rat.intCast_mul]
  grind
theorem add_to {a b r : Rt} (ha : goodRt a = true) (hb : goodRt b = true) (hr : goodRt r = true) (h : qR a + qR b = qR r) : addRt a b = (r, true) := by
  have h1 := (denmul ha hb).1
  have h2 := den_pos ha
  have h3 := den_pos hb
  unfold addRt
  refine low_q hr h1 ?_
  rw [← h]
  unfold qR
  rw [Rat.intCast_add, Rat.intCast_mul, Rat.intCast_mul, Rat.intCast_mul]
  grind
/-- **The value at a point's place is the point's.** -/
theorem vR_knot {f : List Pt} (hf : mapOk f = true) {i : Nat} (hi : i + 1 < f.length) : vR f (getA zP f (i + 1)).x = ((getA zP f (i + 1)).y, true) := by
  obtain ⟨m1, m2, m3, m4, m5⟩ := mapOk_iff.1 hf
  have hp := map_pt hf (i := i) (by omega)
  have hq := map_pt hf hi
  have gp := ptOk_iff.1 hp
  have gq := ptOk_iff.1 hq
  have hinc := map_inc hf
  have gx : ∀ {j : Nat}, j < f.length → goodRt (getA zP f j).x = true := fun hj => coord_good (ptOk_iff.1 (map_pt hf hj)).1
  have hu := coord_unit gq.1
  have hpc : i = pcN f (getA zP f (i + 1)).x := pc_uniq hf hu (fun j h0 hj => (q_lt (gx (by omega)) (gx hi)).2 (Inc.lt hinc (by omega) hi)) (fun h => by have := (q_lt (gx hi) (gx hi)).1 h.2; grind) hi
  obtain ⟨s1, s2, s3⟩ := slR_ok hp hq (m5 i hi)
  obtain ⟨a1, a2, _, _⟩ := sub_coord gq.1 gp.1
  obtain ⟨b1, b2, _, _⟩ := sub_coord gq.2 gp.2
  unfold vR
  rw [← hpc]
  have e1 : mulRt (slR (getA zP f i) (getA zP f (i + 1))) (subRt (getA zP f (i + 1)).x (getA zP f i).x).1 = ((subRt (getA zP f (i + 1)).y (getA zP f i).y).1, true) := by
    refine mul_to s2 a2 b2 ?_
    rw [q_sub (coord_good gq.1) (coord_good gp.1) a1, q_sub (coord_good gq.2) (coord_good gp.2) b1]
    exact s3
  rw [lineR_3 a1 (by rw [e1]), e1]
  refine add_to (coord_good gp.2) b2 (coord_good gq.2) ?_
  rw [q_sub (coord_good gq.2) (coord_good gp.2) b1]
  grind
end Go.Vx
namespace Go.Vx
open Go
set_option maxRecDepth 100000
set_option linter.unusedSimpArgs false
set_option linter.unusedVariables false

theorem has_iff {i : Iv} {x : Rt} (hi : ivOk i = true) (hx : goodRt x = true) : hasR i x = true ↔ (qR i.a ≤ qR x ∧ qR x ≤ qR i.b) := by
  obtain ⟨g1, g2, _⟩ := iv_q hi
  have e1 := q_lt hx g1
  have e2 := q_lt g2 hx
  unfold hasR lessRt
  rw [Bool.and_eq_true, Bool.not_eq_true', Bool.not_eq_true', decide_eq_false_iff_not, decide_eq_false_iff_not, e1, e2]
  constructor
  · intro ⟨a, b⟩; exact ⟨Rat.not_lt.1 a, Rat.not_lt.1 b⟩
  · intro ⟨a, b⟩; exact ⟨Rat.not_lt.2 a, Rat.not_lt.2 b⟩
/-- scaled into an interval -/
theorem si_q {i : Iv} {x : Rt} (h : (siRes i x).2 = true) : ivOk i = true ∧ unitRt x = true ∧ unitRt (siRes i x).1 = true ∧ qR i.a ≤ qR (siRes i x).1 ∧ qR (siRes i x).1 ≤ qR i.b ∧ sc i (qR (siRes i x).1) = qR x := by
  cases h1 : ivOk i with
  | false => rw [si_f1 h1] at h; cases h
  | true =>
    cases h2 : unitRt x with
    | false => rw [si_f2 h2] at h; cases h
    | true =>
      rw [si_t h1 h2] at h ⊢
      obtain ⟨g1, g2, g3, g4, g5⟩ := iv_q h1
      have gx := unit_good h2
      have ux := (q_unit gx).1 h2
      cases e1 : (subRt i.b i.a).2 with
      | false => rw [lineR_1 (p := ⟨i.a, i.a⟩) e1] at h; cases h
      | true =>
        have k1 : goodRt (subRt i.b i.a).1 = true := lowRt_good1 e1
        cases e2 : (mulRt x (subRt i.b i.a).1).2 with
        | false => rw [lineR_2 (p := ⟨i.a, i.a⟩) e1 e2] at h; cases h
        | true =>
          have k2 : goodRt (mulRt x (subRt i.b i.a).1).1 = true := lowRt_good1 e2
          rw [lineR_3 (p := ⟨i.a, i.a⟩) e1 e2] at h ⊢
          have k3 : goodRt (addRt i.a (mulRt x (subRt i.b i.a).1).1).1 = true := lowRt_good1 h
          have e : qR (addRt i.a (mulRt x (subRt i.b i.a).1).1).1 = qR i.a + qR x * (qR i.b - qR i.a) := by
            rw [q_add g1 k2 h, q_mul gx k1 e2, q_sub g2 g1 e1]
          have p1 := Rat.mul_nonneg ux.1 (show 0 ≤ qR i.b - qR i.a by grind)
          have p2 := Rat.mul_nonneg (show 0 ≤ 1 - qR x by grind) (show 0 ≤ qR i.b - qR i.a by grind)
          have b1 : qR i.a ≤ qR i.a + qR x * (qR i.b - qR i.a) := by grind
          have b2 : qR i.a + qR x * (qR i.b - qR i.a) ≤ qR i.b := by grind
          dsimp only
          rw [e]
          refine ⟨rfl, rfl, (q_unit k3).2 (by rw [e]; grind), b1, b2, ?_⟩
          exact (sc_uniq h1 (by grind)).symm
theorem so_q {i : Iv} {x : Rt} (h : (soRes i x).2 = true) : ivOk i = true ∧ unitRt x = true ∧ goodRt (soRes i x).1 = true ∧ qR (soRes i x).1 = sc i (qR x) := by
  cases h1 : ivOk i with
  | false => rw [so_f1 h1] at h; cases h
  | true =>
    cases h2 : unitRt x with
    | false => rw [so_f2 h2] at h; cases h
    | true =>
      cases h3 : hasR i x with
      | false => rw [so_f3 h3] at h; cases h
      | true =>
        rw [so_t h1 h2 h3] at h ⊢
        exact ⟨rfl, rfl, scOut_q h1 (unit_good h2) h⟩
/-- out of an interval behind into it -/
theorem so_si {i : Iv} {x : Rt} (h1 : (siRes i x).2 = true) (h2 : (soRes i (siRes i x).1).2 = true) : (soRes i (siRes i x).1).1 = x := by
  obtain ⟨a1, a2, a3, a4, a5, a6⟩ := si_q h1
  obtain ⟨b1, b2, b3, b4⟩ := so_q h2
  exact q_inj b3 (unit_good a2) (by rw [b4, a6])
theorem rm_ok {f : List Pt} {i : Iv} {n : Int} (h : (rmRes f i n).2 = true) : raRes f i n = (true, true) ∧ mapOk f = true ∧ ivOk i = true ∧ 1 ≤ n ∧ n ≤ 6 ∧ mapOk (rmRes f i n).1 = true ∧ ∀ t, qR i.a ≤ t → t ≤ qR i.b → pv (rmRes f i n).1 (sc i t) = sc i (itv f n.toNat t) := by
  cases h1 : (raRes f i n).2 with
  | false => rw [rm_f1 h1] at h; cases h
  | true =>
    cases h2 : (raRes f i n).1 with
    | false => rw [rm_f2 h2] at h; cases h
    | true =>
      cases h3 : (pmRes f n).2 with
      | false => rw [rm_f3 h3] at h; cases h
      | true =>
        obtain ⟨b1, b2, b3⟩ := rm_back h1 h2 h3
        rw [rm_t h1 h2 h3] at h ⊢
        obtain ⟨c1, c2⟩ := rm_pv b1 b2 b3 h
        obtain ⟨p1, p2, p3, p4, p5⟩ := pm_ok h3
        have hn : 1 ≤ n := by
          cases hi : (imsRes f i n).2 with
          | false => rw [ra_f hi] at h1; cases h1
          | true => exact (ims_ok hi).2.2.1
        refine ⟨Prod.ext h2 h1, p1, b2, hn, p3, c1, fun t t1 t2 => ?_⟩
        rw [c2 t t1 t2]
        obtain ⟨_, _, _, w4, w5⟩ := iv_q b2
        rw [p4] at h3 ⊢
        rw [(pw_pv p1 h3).2 t (Rat.le_trans w4 t1) (Rat.le_trans t2 w5)]
/-- the value of a return map -/
theorem rn_val {f : List Pt} {i : Iv} {n : Int} {x : Rt} (hr : (rmRes f i n).2 = true) (h1 : (siRes i x).2 = true) (h2 : (itRes f (siRes i x).1 n).2 = true) (h3 : (soRes i (itRes f (siRes i x).1 n).1).2 = true) (h4 : (vaRes (rmRes f i n).1 x).2 = true) :
    (vaRes (rmRes f i n).1 x).1 = (soRes i (itRes f (siRes i x).1 n).1).1 := by
  obtain ⟨r1, r2, r3, r4, r5, r6, r7⟩ := rm_ok hr
  obtain ⟨a1, a2, a3, a4, a5, a6⟩ := si_q h1
  obtain ⟨b1, b2, b3, b4⟩ := so_q h3
  obtain ⟨c1, c2, c3⟩ := it_ok h2
  have hv : vaRes (rmRes f i n).1 x = vR (rmRes f i n).1 x := va_t r6 a2
  rw [hv] at h4 ⊢
  refine q_inj (vR_good r6 a2 h4) b3 ?_
  rw [vR_q r6 a2 h4, b4, c3, ← a6, r7 _ a4 a5]
/-! ### the time of return -/
theorem orR_shift {f : List Pt} {x : Rt} (h : (vR f x).2 = true) : ∀ n, orR f x (n + 1) = orR f (vR f x).1 n
  | 0 => by
    rw [orR_t (by rw [orR_zero]), orR_zero, orR_zero]
    dsimp only
    exact Prod.ext rfl h
  | n + 1 => by
    have ih := orR_shift h n
    cases hc : (orR f x (n + 1)).2 with
    | false =>
      have e1 : orR f x (n + 1 + 1) = (⟨0, 0⟩, false) := orR_f hc
      have e2 : orR f (vR f x).1 (n + 1) = (⟨0, 0⟩, false) := orR_f (by rw [← ih]; exact hc)
      rw [e1, e2]
    | true =>
      have e1 : orR f x (n + 1 + 1) = vR f (orR f x (n + 1)).1 := orR_t hc
      have e2 : orR f (vR f x).1 (n + 1) = vR f (orR f (vR f x).1 n).1 := orR_t (by rw [← ih]; exact hc)
      rw [e1, e2, ih]
theorem rtG_or {f : List Pt} {i : Iv} : ∀ {k n : Nat} {x : Rt}, (rtG f i k n x).2 = true → ∃ j, j < k ∧ (rtG f i k n x).1 = ((n + j : Nat) : Int) ∧ (orR f x (j + 1)).2 = true ∧ hasR i (orR f x (j + 1)).1 = true
  | 0, n, x, h => by cases h
  | k + 1, n, x, h => by
    rw [rtG] at h ⊢
    cases h1 : (vR f x).2 with
    | false => rw [h1] at h; cases h
    | true =>
      cases h2 : hasR i (vR f x).1 with
      | true =>
        refine ⟨0, by omega, rfl, ?_, ?_⟩
        · rw [orR_shift h1, orR_zero]
        · rw [orR_shift h1, orR_zero]; exact h2
      | false =>
        rw [h1, h2] at h
        dsimp only at h ⊢
        obtain ⟨j, a, b, c, d⟩ := rtG_or h
        refine ⟨j + 1, by omega, ?_, ?_, ?_⟩
        · rw [b, show n + 1 + j = n + (j + 1) by omega]
        · rw [orR_shift h1]; exact c
        · rw [orR_shift h1]; exact d
theorem rt_ok {f : List Pt} {i : Iv} {x : Rt} {n : Int} (h : (rtRes f i x n).2 = true) : 1 ≤ (rtRes f i x n).1 ∧ (rtRes f i x n).1 ≤ n ∧ ivOk i = true ∧ (itRes f x (rtRes f i x n).1).2 = true ∧ goodRt (itRes f x (rtRes f i x n).1).1 = true ∧ hasR i (itRes f x (rtRes f i x n).1).1 = true := by
  cases hk : rtOk f i x n with
  | false => rw [rt_f hk] at h; cases h
  | true =>
    rw [rt_t hk] at h ⊢
    unfold rtOk at hk
    rw [Bool.and_eq_true, Bool.and_eq_true] at hk
    obtain ⟨k1, k2, k3⟩ := hk
    obtain ⟨m1, m2, m3, m4⟩ := retOk_iff.1 k1
    obtain ⟨j, a, b, c, d⟩ := rtG_or h
    rw [b]
    have e : itRes f x ((1 + j : Nat) : Int) = orR f x (1 + j) := by
      rw [it_t m1 k2 (by omega) (by omega)]
      rfl
    rw [show j + 1 = 1 + j by omega] at c d
    rw [e]
    exact ⟨by omega, by omega, m2, c, unit_good (orR_unit m1 k2 c), d⟩
/-! ### the part of an image -/
theorem part_in {f : List Pt} {i : Iv} (h : (ptRes f i).2 = true) : lessRt (ptRes f i).1.a i.a = false ∧ lessRt i.b (ptRes f i).1.b = false ∧ goodRt (ptRes f i).1.a = true ∧ goodRt (ptRes f i).1.b = true ∧ goodRt i.a = true ∧ goodRt i.b = true := by
  cases h1 : (iiRes f i).2 with
  | false => rw [pt_f h1] at h; cases h
  | true =>
    obtain ⟨_, h2, h3, _, _⟩ := ii_ok h1
    rw [pt_t h1] at h ⊢
    dsimp only at h ⊢
    obtain ⟨g1, g2, _⟩ := iv_q h2
    obtain ⟨k1, k2, _⟩ := iv_q h3
    unfold cutR
    rw [h]
    dsimp only
    refine ⟨?_, ?_, grR_good g1 k1, lsR_good g2 k2, g1, g2⟩
    · by_cases c : ltR i.a (iiRes f i).1.a
      · rw [grR_t c]; exact lt_asym c
      · rw [grR_f c]; exact decide_eq_false (Int.lt_irrefl _)
    · by_cases c : ltR i.b (iiRes f i).1.b
      · rw [lsR_t c]; exact decide_eq_false (Int.lt_irrefl _)
      · rw [lsR_f c]; exact decide_eq_false c
end Go.Vx
namespace Go.Vx
open Go Go.Proofs
set_option maxRecDepth 100000
set_option linter.unusedSimpArgs false
set_option linter.unusedVariables false

noncomputable def s_impl_ValueAt : Sig := ⟨38, [.list .pt, .val .rat], [.val .rat, .val .bool], fun ((f : List Pt), (x : Rt), _) => ⟨[], ((vaRes f x).1, (vaRes f x).2, ()), ()⟩⟩
noncomputable def s_spec_ValueAt : Sig := ⟨39, [.list .pt, .val .rat], [.val .rat, .val .bool], fun ((f : List Pt), (x : Rt), _) => ⟨[], ((vaRes f x).1, (vaRes f x).2, ()), ()⟩⟩
theorem va_bad {f : List Pt} {x : Rt} (h1 : mapOk f = true) (h2 : unitRt x = true) (h : (vR f x).2 = false) : vaRes f x = (⟨0, 0⟩, false) := by rw [va_t h1 h2, vR_bad h]
theorem va_good {f : List Pt} {x : Rt} (h1 : mapOk f = true) (h2 : unitRt x = true) (h : (vR f x).2 = true) : vaRes f x = (vO f x, true) := by rw [va_t h1 h2, vO_t h]; exact Prod.ext rfl h
theorem ok_impl_ValueAt : GSpec Tryz.prog s_impl_ValueAt := by
  refine fn_known tab_ok fol (((Known.nil.cons ok_impl_isMap (by kernel_rfl)).cons ok_impl_isUnit (by kernel_rfl)).cons ok_calc_value (by kernel_rfl)) (by decide) Tryz.func38 ?_
  rintro ⟨(f : List Pt), ⟨(n : Int), (d : Int)⟩, ⟨⟩⟩ ⟨hl, _⟩ -
  repeat' (first | with_reducible apply andAll_cons | with_reducible apply andAll_nil | (with_reducible apply Cf.mk; kernel_rfl) | apply And.intro | intro _ | exact True.intro | apply Lf.mk)
  all_goals (try simp only [List.drop_zero, List.take_length] at *)
  all_goals (try simp only [Bool.not_eq_true', Bool.not_eq_false', Bool.not_not, decide_eq_true_eq, decide_eq_false_iff_not, beq_iff_eq, bne_iff_ne, beq_eq_false_iff_ne, bne_eq_false_iff_eq, ne_eq, Bool.and_eq_true, Bool.and_eq_false_iff, Bool.or_eq_true, Bool.or_eq_false_iff, Int.toNat_natCast, Nat.zero_add, Int.ofNat_lt, Int.ofNat_le, List.length_cons, List.length_nil, List.drop_zero, List.take_length] at *)
  all_goals first
    | assumption
    | (rw [va_f1 (by assumption)]; done)
    | (rw [va_f2 (by assumption)]; done)
    | (rw [va_bad (by assumption) (by assumption) ((by assumption : false = true ∨ _).resolve_left Bool.noConfusion)]; done)
    | (rw [va_good (by assumption) (by assumption) (by assumption : True ∧ _).2]; done)
    | trace_state
theorem ok_spec_ValueAt : GSpec Tryz.prog s_spec_ValueAt := by
  refine fn_known tab_ok fol (((Known.nil.cons ok_spec_imGood (by kernel_rfl)).cons ok_spec_raUnit (by kernel_rfl)).cons ok_spec_imAt (by kernel_rfl)) (by decide) Tryz.func39 ?_
  rintro ⟨(f : List Pt), ⟨(n : Int), (d : Int)⟩, ⟨⟩⟩ ⟨hl, _⟩ -
  repeat' (first | with_reducible apply andAll_cons | with_reducible apply andAll_nil | (with_reducible apply Cf.mk; kernel_rfl) | apply And.intro | intro _ | exact True.intro | apply Lf.mk)
  all_goals (try simp only [List.drop_zero, List.take_length] at *)
  all_goals (try simp only [Bool.not_eq_true', Bool.not_eq_false', Bool.not_not, decide_eq_true_eq, decide_eq_false_iff_not, beq_iff_eq, bne_iff_ne, beq_eq_false_iff_ne, bne_eq_false_iff_eq, ne_eq, Bool.and_eq_true, Bool.and_eq_false_iff, Bool.or_eq_true, Bool.or_eq_false_iff, Int.toNat_natCast, Nat.zero_add, Int.ofNat_lt, Int.ofNat_le, List.length_cons, List.length_nil, List.drop_zero, List.take_length] at *)
  all_goals first
    | assumption
    | (rw [va_f1 (by assumption)]; done)
    | (rw [va_f2 (by assumption)]; done)
    | (rw [va_t (by assumption) (by assumption)]; done)
    | trace_state
noncomputable def s_impl_IsMap : Sig := ⟨33, [.list .pt], [.val .bool], fun ((f : List Pt), _) => ⟨[], (mapOk f, ()), ()⟩⟩
theorem ok_impl_IsMap : GSpec Tryz.prog s_impl_IsMap := by
  refine fn_known tab_ok fol (Known.nil.cons ok_impl_isMap (by kernel_rfl)) (by decide) Tryz.func33 ?_
  rintro ⟨(f : List Pt), ⟨⟩⟩ ⟨hl, _⟩ -
  repeat' (first | with_reducible apply andAll_cons | with_reducible apply andAll_nil | (with_reducible apply Cf.mk; kernel_rfl) | apply And.intro | intro _ | exact True.intro | apply Lf.mk)
  all_goals (try simp only [List.drop_zero, List.take_length] at *)
  all_goals first | rfl | trace_state
noncomputable def s_spec_MakeRat : Sig := ⟨34, [.val NI, .val NI], [.val .rat, .val .bool], fun ((n : Int), (d : Int), _) => ⟨[0 ≤ n, n ≤ 100, 1 ≤ d, d ≤ 100], ((lowRt n d).1, (lowRt n d).2, ()), ()⟩⟩
theorem ok_spec_MakeRat : GSpec Tryz.prog s_spec_MakeRat := by
  refine fn_known tab_ok fol ((Known.nil.cons ok_spec_l1In (by kernel_rfl)).cons ok_spec_raMake (by kernel_rfl)) (by decide) Tryz.func34 ?_
  rintro ⟨(n : Int), (d : Int), ⟨⟩⟩ - ⟨h1, h2, h3, h4, _⟩
  have h1 : 0 ≤ n := h1
  have h2 : n ≤ 100 := h2
  have h3 : 1 ≤ d := h3
  have h4 : d ≤ 100 := h4
  have i1 : inB n (-1000000000000000000) 1000000000000000000 = true := by unfold inB; simp only [Bool.and_eq_true, decide_eq_true_eq]; omega
  have i2 : inB d (-1000000000000000000) 1000000000000000000 = true := by unfold inB; simp only [Bool.and_eq_true, decide_eq_true_eq]; omega
  repeat' (first | with_reducible apply andAll_cons | with_reducible apply andAll_nil | (with_reducible apply Cf.mk; kernel_rfl) | apply And.intro | intro _ | exact True.intro | apply Lf.mk)
  all_goals (try simp only [Bool.not_eq_true', Bool.not_eq_false', Bool.not_not, decide_eq_true_eq, decide_eq_false_iff_not, beq_iff_eq, bne_iff_ne, beq_eq_false_iff_ne, bne_eq_false_iff_eq, ne_eq, Bool.and_eq_true, Bool.and_eq_false_iff, Bool.or_eq_true, Bool.or_eq_false_iff, Int.toNat_natCast, Nat.zero_add, Int.ofNat_lt, Int.ofNat_le, List.length_cons, List.length_nil, List.drop_zero, List.take_length] at *)
  all_goals first
    | omega
    | rfl
    | (show inI64 _; unfold inI64; omega)
    | (exfalso; have hx : inB n (-1000000000000000000) 1000000000000000000 = false := (by assumption); rw [i1] at hx; cases hx)
    | (exfalso; have hx : inB d (-1000000000000000000) 1000000000000000000 = false := (by assumption); rw [i2] at hx; cases hx)
    | trace_state
noncomputable def s_spec_orSteps : Sig := ⟨185, [.val NI], [.val .bool], fun ((n : Int), _) => ⟨[], (inB n 0 60, ()), ()⟩⟩
theorem ok_spec_orSteps : GSpec Tryz.prog s_spec_orSteps := by
  refine fn_known tab_ok fol (Known.nil.cons ok_spec_l1In (by kernel_rfl)) (by decide) Tryz.func185 ?_
  rintro ⟨(n : Int), ⟨⟩⟩ - -
  repeat' (first | with_reducible apply andAll_cons | with_reducible apply andAll_nil | (with_reducible apply Cf.mk; kernel_rfl) | apply And.intro | intro _ | exact True.intro | apply Lf.mk)
  all_goals rfl
noncomputable def s_spec_orAsked : Sig := ⟨113, [.list .pt, .val .rat, .val NI], [.val .bool], fun ((f : List Pt), (x : Rt), (n : Int), _) => ⟨[], (stOk f x n, ()), ()⟩⟩
theorem ok_spec_orAsked : GSpec Tryz.prog s_spec_orAsked := by
  refine fn_known tab_ok fol (((Known.nil.cons ok_spec_imGood (by kernel_rfl)).cons ok_spec_raUnit (by kernel_rfl)).cons ok_spec_orSteps (by kernel_rfl)) (by decide) Tryz.func113 ?_
  rintro ⟨(f : List Pt), ⟨(n : Int), (d : Int)⟩, (k : Int), ⟨⟩⟩ - -
  repeat' (first | with_reducible apply andAll_cons | with_reducible apply andAll_nil | (with_reducible apply Cf.mk; kernel_rfl) | apply And.intro | intro _ | exact True.intro | apply Lf.mk)
  all_goals (try simp only [Bool.not_eq_true', Bool.not_eq_false', Bool.not_not, decide_eq_true_eq, decide_eq_false_iff_not, beq_iff_eq, bne_iff_ne, beq_eq_false_iff_ne, bne_eq_false_iff_eq, ne_eq, Bool.and_eq_true, Bool.and_eq_false_iff, Bool.or_eq_true, Bool.or_eq_false_iff, Int.toNat_natCast, Nat.zero_add, Int.ofNat_lt, Int.ofNat_le, List.length_cons, List.length_nil, List.drop_zero, List.take_length] at *)
  all_goals first | (simp_all [stOk]; done) | trace_state
noncomputable def s_spec_orRun : Sig := ⟨114, [.list .pt, .val .rat, .val NI], [.list 26 .rat], fun ((f : List Pt), (x : Rt), (n : Int), _) => ⟨[mapOk f = true, unitRt x = true, 0 ≤ n, n ≤ 60], (orL f x (orN f x n.toNat), ()), ()⟩⟩
theorem ok_spec_orRun : GSpec Tryz.prog s_spec_orRun := by
  refine fn_known tab_ok fol (Known.nil.cons ok_spec_imAt (by kernel_rfl)) (by decide) Tryz.func114 ?_
  rintro ⟨(f : List Pt), ⟨(n : Int), (d : Int)⟩, (k : Int), ⟨⟩⟩ ⟨hl, _⟩ ⟨h1, h2, h3, h4, _⟩
  have h3 : 0 ≤ k := h3
  have h4 : k ≤ 60 := h4
  refine ⟨Nat, fun i => ⟨[(7, .sc (.own 7777777))], [100000], [(7777777, .row 26 .rat (orL f ⟨n, d⟩ i))]⟩, fun i => i ≤ k.toNat ∧ (orR f ⟨n, d⟩ i).2 = true, fun i => k.toNat - i, ⟨0, ⟨Nat.zero_le _, by rw [orR_zero]⟩, ?_⟩, ?_⟩
  · have e1 := orL_zero f ⟨n, d⟩
    repeat' (first | apply And.intro | exact True.intro | exact Lf.mk (by with_reducible rfl) | apply Lf.mk)
    all_goals first | rfl | exact e1.symm | trace_state
  · rintro i ⟨g1, g2⟩
    have q1 := orL_len f ⟨n, d⟩ i
    have q2 := orR_unit h1 h2 g2
    have q3 := orL_succ f ⟨n, d⟩ i
    have q4 := orR_t g2
    have e1 : (((i + 1 : Nat) : Int) - 1).toNat = i := by omega
    have e2 : ((i : Int) + 1 - 1).toNat = i := by omega
    repeat' (first | with_reducible apply andAll_cons | with_reducible apply andAll_nil | (with_reducible apply Cf.mk; kernel_rfl) | apply And.intro | intro _ | exact True.intro | apply Lf.mk)
    all_goals (try simp only [q1, e1, e2] at *)
    all_goals (try simp only [List.drop_zero, List.take_length] at *)
    all_goals (have q5 := orL_last f ⟨n, d⟩ i)
    all_goals (try simp only [Bool.not_eq_true', Bool.not_eq_false', Bool.not_not, decide_eq_true_eq, decide_eq_false_iff_not, beq_iff_eq, bne_iff_ne, beq_eq_false_iff_ne, bne_eq_false_iff_eq, ne_eq, Bool.and_eq_true, Bool.and_eq_false_iff, Bool.or_eq_true, Bool.or_eq_false_iff, Int.toNat_natCast, Nat.zero_add, Int.ofNat_lt, Int.ofNat_le, List.length_cons, List.length_nil, List.drop_zero, List.take_length] at *)
    all_goals first | omega | exact h1 | exact q2 | (show (_ + 1) * 16 ≤ 140737488355328; omega) | skip
    all_goals first
      | ((with_reducible show unitRt _ = true); have z := q2; rw [← q5] at z; exact z)
      | (have hb : (vR f (getA zR (orL f ⟨n, d⟩ i) i)).2 = false := (by assumption)
         rw [q5] at hb
         rw [orN_f g2 (by rw [q4]; exact hb) g1]
         done)
      | (have hb : (vR f (getA zR (orL f ⟨n, d⟩ i) i)).2 = true := (by assumption)
         have e7 : orL f ⟨n, d⟩ i ++ [(vR f (getA zR (orL f ⟨n, d⟩ i) i)).1] = orL f ⟨n, d⟩ (i + 1) := by rw [q3, q4, q5]
         rw [q5] at hb
         refine ⟨i + 1, ⟨by omega, by rw [q4]; exact hb⟩, by omega, ?_⟩
         repeat' (first | apply And.intro | exact True.intro | exact Lf.mk (by with_reducible rfl) | apply Lf.mk)
         all_goals first | rfl | exact e7 | (rw [Int.natCast_add]; rfl) | trace_state)
      | (rw [orN_t (by rw [show k.toNat = i by omega]; exact g2), show k.toNat = i by omega]; done)
      | trace_state
noncomputable def s_spec_IterateMap : Sig := ⟨36, [.list .pt, .val .rat, .val NI], [.val .rat, .val .bool], fun ((f : List Pt), (x : Rt), (n : Int), _) => ⟨[], ((itRes f x n).1, (itRes f x n).2, ()), ()⟩⟩
theorem ok_spec_IterateMap : GSpec Tryz.prog s_spec_IterateMap := by
  refine fn_known tab_ok fol ((Known.nil.cons ok_spec_orAsked (by kernel_rfl)).cons ok_spec_orRun (by kernel_rfl)) (by decide) Tryz.func36 ?_
  rintro ⟨(f : List Pt), ⟨(n : Int), (d : Int)⟩, (k : Int), ⟨⟩⟩ ⟨hl, _⟩ -
  have r1 : stOk f ⟨n, d⟩ k = false → itRes f ⟨n, d⟩ k = (⟨0, 0⟩, false) := fun h => by unfold itRes; rw [h]
  have r2 : stOk f ⟨n, d⟩ k = true → mapOk f = true ∧ unitRt ⟨n, d⟩ = true ∧ 0 ≤ k ∧ k ≤ 60 ∧ itRes f ⟨n, d⟩ k = orR f ⟨n, d⟩ k.toNat := fun h => by
    have h' := stOk_iff.1 h
    exact ⟨h'.1, h'.2.1, h'.2.2.1, h'.2.2.2, by unfold itRes; rw [h]⟩
  have hlen := orL_len f ⟨n, d⟩ (orN f ⟨n, d⟩ k.toNat)
  have hle := orN_le f ⟨n, d⟩ k.toNat
  have hlast := orL_last f ⟨n, d⟩ k.toNat
  repeat' (first | with_reducible apply andAll_cons | with_reducible apply andAll_nil | (with_reducible apply Cf.mk; kernel_rfl) | apply And.intro | intro _ | exact True.intro | apply Lf.mk)
  all_goals (try simp only [Bool.not_eq_true', Bool.not_eq_false', Bool.not_not, decide_eq_true_eq, decide_eq_false_iff_not, beq_iff_eq, bne_iff_ne, beq_eq_false_iff_ne, bne_eq_false_iff_eq, ne_eq, Bool.and_eq_true, Bool.and_eq_false_iff, Bool.or_eq_true, Bool.or_eq_false_iff, Int.toNat_natCast, Nat.zero_add, Int.ofNat_lt, Int.ofNat_le, List.length_cons, List.length_nil, List.drop_zero, List.take_length] at *)
  all_goals first | exact (r2 (by assumption)).1 | exact (r2 (by assumption)).2.1 | exact (r2 (by assumption)).2.2.1 | exact (r2 (by assumption)).2.2.2.1 | (rw [r1 (by assumption)]; done) | skip
  all_goals (have hq := r2 (by assumption))
  all_goals (obtain ⟨w1, w2, w3, w4, w5⟩ := hq)
  all_goals (cases hb : (orR f ⟨n, d⟩ k.toNat).2)
  all_goals (first | (have hn := orN_lt hb) | (have hn := orN_t hb))
  all_goals first | omega | (exfalso; omega) | (rw [w5, orR_bad hb]; done) | (rw [w5, hb]; done) | (rw [hn, hlast, w5]; done) | (rw [w5, hn]; exact hlast) | trace_state
end Go.Vx
namespace Go.Vx
open Go Go.Proofs
set_option maxRecDepth 100000
set_option linter.unusedSimpArgs false
set_option linter.unusedVariables false

theorem rt_of_eq2 {a b : Rt} (h : eqRt a b = true) : a = b := of_decide_eq_true h
theorem pt_of_eq2 {a b : Pt} (h : eqPt a b = true) : a = b := of_decide_eq_true h
noncomputable def s_laws_big : Sig := ⟨7, [.val .raw, .val .raw], [.val .bool], fun ((a : Raw), (b : Raw), _) => ⟨[], (decide (1048576 < (a.bs.length : Int)) || decide (1048576 - (a.bs.length : Int) < (b.bs.length : Int)), ()), ()⟩⟩
theorem ok_laws_big : GSpec Tryz.prog s_laws_big := by
  refine fn_known tab_ok fol Known.nil (by decide) Tryz.func7 ?_
  rintro ⟨(a : Raw), (b : Raw), ⟨⟩⟩ hl _
  have l1 : a.bs.length ≤ 9223372036854775807 := a.hl
  have l2 : b.bs.length ≤ 9223372036854775807 := b.hl
  repeat' (first | with_reducible apply andAll_cons | with_reducible apply andAll_nil | (with_reducible apply Cf.mk; kernel_rfl) | apply And.intro | intro _ | exact True.intro | apply Lf.mk)
  all_goals (try simp only [Bool.not_eq_true', Bool.not_eq_false', Bool.not_not, decide_eq_true_eq, decide_eq_false_iff_not, beq_iff_eq, bne_iff_ne, beq_eq_false_iff_ne, bne_eq_false_iff_eq, ne_eq, Bool.and_eq_true, Bool.and_eq_false_iff, Bool.or_eq_true, Bool.or_eq_false_iff, Int.toNat_natCast, Nat.zero_add, Int.ofNat_lt, Int.ofNat_le, List.length_cons, List.length_nil, List.drop_zero, List.take_length] at *)
  all_goals first | omega | (simp_all; done) | (rename_i h; rw [decide_eq_false h, Bool.false_or]; done) | (rename_i h; rw [decide_eq_true h, Bool.true_or]; done) | trace_state
noncomputable def s_laws_pLess : Sig := ⟨17, [.val .rat, .val .rat], [.val .bool], fun ((a : Rt), (b : Rt), _) => ⟨[goodRt a = true, goodRt b = true], (decide (a.num * b.den < b.num * a.den), ()), ()⟩⟩
theorem ok_laws_pLess : GSpec Tryz.prog s_laws_pLess := by
  refine fn_known tab_ok fol Known.nil (by decide) Tryz.func17 ?_
  rintro ⟨⟨(n : Int), (d : Int)⟩, ⟨(m : Int), (e : Int)⟩, ⟨⟩⟩ hl ⟨h1, h2, _⟩
  have b1 := ratmul h1 h2
  have b2 := ratmul h2 h1
  dsimp only at b1 b2
  repeat' (first | with_reducible apply andAll_cons | with_reducible apply andAll_nil | (with_reducible apply Cf.mk; kernel_rfl) | apply And.intro | intro _ | exact True.intro | apply Lf.mk)
  all_goals first | omega | rfl | trace_state
theorem sum_rng {l : List Int} (h : ∀ x ∈ l, 0 ≤ x ∧ x ≤ 1000000) : 0 ≤ l.sum ∧ l.sum ≤ 1000000 * l.length := by
  induction l with
  | nil => exact ⟨Int.le_refl _, Int.le_refl _⟩
  | cons a r ih =>
    have h1 := h a (by simp)
    have h2 := ih (fun x hx => h x (by simp [hx]))
    rw [List.sum_cons, List.length_cons]
    omega
@[irreducible] def sumT (l : List Int) (i : Nat) : Int := (l.take i).sum
theorem sumT_z (l : List Int) : sumT l 0 = 0 := by unfold sumT; simp
theorem sumT_all {l : List Int} {i : Nat} (h : l.length ≤ i) : sumT l i = l.sum := by unfold sumT; rw [List.take_of_length_le h]
theorem sumT_rng {l : List Int} (h1 : ∀ x ∈ l, 0 ≤ x ∧ x ≤ 1000000) (h2 : l.length ≤ 1000000) (i : Nat) : 0 ≤ sumT l i ∧ sumT l i ≤ 1000000000000 := by
  unfold sumT
  have h3 := sum_rng (l := l.take i) (fun x hx => h1 x (List.mem_of_mem_take hx))
  have h4 : (l.take i).length ≤ 1000000 := by rw [List.length_take]; omega
  omega
theorem sumT_s {l : List Int} {i : Nat} (h : i < l.length) : sumT l (i + 1) = sumT l i + getA NI.dflt l i := by
  unfold sumT
  rw [List.take_add_one, List.sum_append, List.getElem?_eq_getElem h, getA_lt _ _ _ h]
  simp
theorem getN {l : List Int} (h1 : ∀ x ∈ l, 0 ≤ x ∧ x ≤ 1000000) {i : Nat} (h : i < l.length) : 0 ≤ getA NI.dflt l i ∧ getA NI.dflt l i ≤ 1000000 := h1 _ (getA_mem _ h)
noncomputable def s_laws_pSameMap : Sig := ⟨32, [.list .pt, .list .pt], [.val .bool], fun ((a : List Pt), (b : List Pt), _) => ⟨[], (decide (a = b), ()), ()⟩⟩
theorem ok_laws_pSameMap : GSpec Tryz.prog s_laws_pSameMap := by
  refine fn_known tab_ok fol Known.nil (by decide) Tryz.func32 ?_
  rintro ⟨(a : List Pt), (b : List Pt), ⟨⟩⟩ ⟨hl, hl', _⟩ _
  have hl : a.length ≤ 9223372036854775807 := hl
  repeat' (first | with_reducible apply andAll_cons | with_reducible apply andAll_nil | (with_reducible apply Cf.mk; kernel_rfl) | apply And.intro | intro _ | exact True.intro | apply Lf.mk)
  all_goals (try simp only [Bool.not_eq_true', Bool.not_eq_false', Bool.not_not, decide_eq_true_eq, decide_eq_false_iff_not, beq_iff_eq, bne_iff_ne, beq_eq_false_iff_ne, bne_eq_false_iff_eq, ne_eq, Bool.and_eq_true, Bool.and_eq_false_iff, Bool.or_eq_true, Bool.or_eq_false_iff, Int.toNat_natCast, Nat.zero_add, Int.ofNat_lt, Int.ofNat_le, List.length_cons, List.length_nil, List.drop_zero, List.take_length] at *)
  · rename_i h; change false = decide (a = b); symm; rw [decide_eq_false_iff_not]; intro h2; apply h; rw [h2]
  · rename_i h
    have h : a.length = b.length := by omega
    refine ⟨Nat, fun i => ⟨[(13, .sc (.num .i64 i))], [100000, 100001], []⟩, fun i => i ≤ a.length ∧ a.take i = b.take i, fun i => a.length - i, ⟨0, ?_, ?_⟩, ?_⟩
    · exact ⟨Nat.zero_le _, rfl⟩
    · repeat' (first | apply And.intro | exact True.intro | exact Lf.mk (by with_reducible rfl) | apply Lf.mk)
      all_goals rfl
    · rintro i ⟨g1, g2⟩
      repeat' (first | with_reducible apply andAll_cons | with_reducible apply andAll_nil | (with_reducible apply Cf.mk; kernel_rfl) | apply And.intro | intro _ | exact True.intro | apply Lf.mk)
      all_goals (try simp only [Bool.not_eq_true', Bool.not_eq_false', Bool.not_not, decide_eq_true_eq, decide_eq_false_iff_not, beq_iff_eq, bne_iff_ne, beq_eq_false_iff_ne, bne_eq_false_iff_eq, ne_eq, Bool.and_eq_true, Bool.and_eq_false_iff, Bool.or_eq_true, Bool.or_eq_false_iff, Int.toNat_natCast, Nat.zero_add, Int.ofNat_lt, Int.ofNat_le, List.length_cons, List.length_nil, List.drop_zero, List.take_length] at *)
      all_goals first | omega | skip
      · rename_i h3 h4; change false = decide (a = b); symm; rw [decide_eq_false_iff_not]; intro h2; rw [h2] at h4; simp [eqPt] at h4
      · rename_i h3 h4
        refine ⟨i + 1, ⟨by omega, take_eq_succ VK.pt.dflt a b i h3 (by omega) g2 (pt_of_eq2 (by simpa using h4))⟩, by omega, ?_⟩
        repeat' (first | apply And.intro | exact True.intro | exact Lf.mk (by with_reducible rfl) | apply Lf.mk)
        all_goals rfl
      · rename_i h3; change true = decide (a = b); symm; rw [decide_eq_true_eq]; exact eq_of_take h h3 g2
end Go.Vx
namespace Go.Vx
open Go Go.Proofs
set_option maxRecDepth 100000
set_option linter.unusedSimpArgs false
set_option linter.unusedVariables false

noncomputable def s_laws_pWithin : Sig := ⟨43, [.val .iv, .val .rat], [.val .bool], fun ((i : Iv), (x : Rt), _) => ⟨[goodRt i.a = true, goodRt i.b = true, goodRt x = true], (hasR i x, ()), ()⟩⟩
theorem ok_laws_pWithin : GSpec Tryz.prog s_laws_pWithin := by
  refine fn_known tab_ok fol (Known.nil.cons ok_laws_pLess (by kernel_rfl)) (by decide) Tryz.func43 ?_
  rintro ⟨⟨⟨(n : Int), (d : Int)⟩, ⟨(m : Int), (e : Int)⟩⟩, ⟨(a : Int), (b : Int)⟩, ⟨⟩⟩ - ⟨h1, h2, h3, _⟩
  have h1 : goodRt ⟨n, d⟩ = true := h1
  have h2 : goodRt ⟨m, e⟩ = true := h2
  have h3 : goodRt ⟨a, b⟩ = true := h3
  repeat' (first | with_reducible apply andAll_cons | with_reducible apply andAll_nil | (with_reducible apply Cf.mk; kernel_rfl) | apply And.intro | intro _ | exact True.intro | apply Lf.mk)
  all_goals first | assumption | (unfold hasR lessRt; simp_all; done) | trace_state
noncomputable def s_laws_qMap : Sig := ⟨63, [.list .pt, .list .pt], [.val .bool], fun ((a : List Pt), (b : List Pt), _) => ⟨[], (decide (a = b), ()), ()⟩⟩
theorem ok_laws_qMap : GSpec Tryz.prog s_laws_qMap := by
  refine fn_known tab_ok fol Known.nil (by decide) Tryz.func63 ?_
  rintro ⟨(a : List Pt), (b : List Pt), ⟨⟩⟩ ⟨hl, hl', _⟩ _
  have hl : a.length ≤ 9223372036854775807 := hl
  repeat' (first | with_reducible apply andAll_cons | with_reducible apply andAll_nil | (with_reducible apply Cf.mk; kernel_rfl) | apply And.intro | intro _ | exact True.intro | apply Lf.mk)
  all_goals (try simp only [Bool.not_eq_true', Bool.not_eq_false', Bool.not_not, decide_eq_true_eq, decide_eq_false_iff_not, beq_iff_eq, bne_iff_ne, beq_eq_false_iff_ne, bne_eq_false_iff_eq, ne_eq, Bool.and_eq_true, Bool.and_eq_false_iff, Bool.or_eq_true, Bool.or_eq_false_iff, Int.toNat_natCast, Nat.zero_add, Int.ofNat_lt, Int.ofNat_le, List.length_cons, List.length_nil, List.drop_zero, List.take_length] at *)
  · rename_i h; change false = decide (a = b); symm; rw [decide_eq_false_iff_not]; intro h2; apply h; rw [h2]
  · rename_i h
    have h : a.length = b.length := by omega
    refine ⟨Nat, fun i => ⟨[(13, .sc (.num .i64 i))], [100000, 100001], []⟩, fun i => i ≤ a.length ∧ a.take i = b.take i, fun i => a.length - i, ⟨0, ?_, ?_⟩, ?_⟩
    · exact ⟨Nat.zero_le _, rfl⟩
    · repeat' (first | apply And.intro | exact True.intro | exact Lf.mk (by with_reducible rfl) | apply Lf.mk)
      all_goals rfl
    · rintro i ⟨g1, g2⟩
      repeat' (first | with_reducible apply andAll_cons | with_reducible apply andAll_nil | (with_reducible apply Cf.mk; kernel_rfl) | apply And.intro | intro _ | exact True.intro | apply Lf.mk)
      all_goals (try simp only [Bool.not_eq_true', Bool.not_eq_false', Bool.not_not, decide_eq_true_eq, decide_eq_false_iff_not, beq_iff_eq, bne_iff_ne, beq_eq_false_iff_ne, bne_eq_false_iff_eq, ne_eq, Bool.and_eq_true, Bool.and_eq_false_iff, Bool.or_eq_true, Bool.or_eq_false_iff, Int.toNat_natCast, Nat.zero_add, Int.ofNat_lt, Int.ofNat_le, List.length_cons, List.length_nil, List.drop_zero, List.take_length] at *)
      all_goals first | omega | skip
      · rename_i h3 h4; change false = decide (a = b); symm; rw [decide_eq_false_iff_not]; intro h2; rw [h2] at h4; simp [eqPt] at h4
      · rename_i h3 h4
        refine ⟨i + 1, ⟨by omega, take_eq_succ VK.pt.dflt a b i h3 (by omega) g2 (pt_of_eq2 (by simpa using h4))⟩, by omega, ?_⟩
        repeat' (first | apply And.intro | exact True.intro | exact Lf.mk (by with_reducible rfl) | apply Lf.mk)
        all_goals rfl
      · rename_i h3; change true = decide (a = b); symm; rw [decide_eq_true_eq]; exact eq_of_take h h3 g2
theorem iv_of_eq2 {a b : Iv} (h : eqIv a b = true) : a = b := of_decide_eq_true h
noncomputable def s_laws_pSameCover : Sig := ⟨15, [.list .iv, .list .iv], [.val .bool], fun ((a : List Iv), (b : List Iv), _) => ⟨[], (decide (a = b), ()), ()⟩⟩
theorem ok_laws_pSameCover : GSpec Tryz.prog s_laws_pSameCover := by
  refine fn_known tab_ok fol Known.nil (by decide) Tryz.func15 ?_
  rintro ⟨(a : List Iv), (b : List Iv), ⟨⟩⟩ ⟨hl, hl', _⟩ _
  have hl : a.length ≤ 9223372036854775807 := hl
  repeat' (first | with_reducible apply andAll_cons | with_reducible apply andAll_nil | (with_reducible apply Cf.mk; kernel_rfl) | apply And.intro | intro _ | exact True.intro | apply Lf.mk)
  all_goals (try simp only [Bool.not_eq_true', Bool.not_eq_false', Bool.not_not, decide_eq_true_eq, decide_eq_false_iff_not, beq_iff_eq, bne_iff_ne, beq_eq_false_iff_ne, bne_eq_false_iff_eq, ne_eq, Bool.and_eq_true, Bool.and_eq_false_iff, Bool.or_eq_true, Bool.or_eq_false_iff, Int.toNat_natCast, Nat.zero_add, Int.ofNat_lt, Int.ofNat_le, List.length_cons, List.length_nil, List.drop_zero, List.take_length] at *)
  · rename_i h; change false = decide (a = b); symm; rw [decide_eq_false_iff_not]; intro h2; apply h; rw [h2]
  · rename_i h
    have h : a.length = b.length := by omega
    refine ⟨Nat, fun i => ⟨[(13, .sc (.num .i64 i))], [100000, 100001], []⟩, fun i => i ≤ a.length ∧ a.take i = b.take i, fun i => a.length - i, ⟨0, ?_, ?_⟩, ?_⟩
    · exact ⟨Nat.zero_le _, rfl⟩
    · repeat' (first | apply And.intro | exact True.intro | exact Lf.mk (by with_reducible rfl) | apply Lf.mk)
      all_goals rfl
    · rintro i ⟨g1, g2⟩
      repeat' (first | with_reducible apply andAll_cons | with_reducible apply andAll_nil | (with_reducible apply Cf.mk; kernel_rfl) | apply And.intro | intro _ | exact True.intro | apply Lf.mk)
      all_goals (try simp only [Bool.not_eq_true', Bool.not_eq_false', Bool.not_not, decide_eq_true_eq, decide_eq_false_iff_not, beq_iff_eq, bne_iff_ne, beq_eq_false_iff_ne, bne_eq_false_iff_eq, ne_eq, Bool.and_eq_true, Bool.and_eq_false_iff, Bool.or_eq_true, Bool.or_eq_false_iff, Int.toNat_natCast, Nat.zero_add, Int.ofNat_lt, Int.ofNat_le, List.length_cons, List.length_nil, List.drop_zero, List.take_length] at *)
      all_goals first | omega | skip
      · rename_i h3 h4; change false = decide (a = b); symm; rw [decide_eq_false_iff_not]; intro h2; rw [h2] at h4; simp [eqIv] at h4
      · rename_i h3 h4
        refine ⟨i + 1, ⟨by omega, take_eq_succ VK.iv.dflt a b i h3 (by omega) g2 (iv_of_eq2 (by simpa using h4))⟩, by omega, ?_⟩
        repeat' (first | apply And.intro | exact True.intro | exact Lf.mk (by with_reducible rfl) | apply Lf.mk)
        all_goals rfl
      · rename_i h3; change true = decide (a = b); symm; rw [decide_eq_true_eq]; exact eq_of_take h h3 g2
end Go.Vx
