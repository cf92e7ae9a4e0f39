/- Lifts: the program's functions and the reference's. -/
import Derived.Test.YtalgocopemmelaaGreatDoorVpLf
import Derived.Test.YtalgocopemmelaaGreatDoorVxMapA
import Derived.Test.YtalgocopemmelaaGreatDoorVxLP
namespace Go.Vx
open Go Go.Proofs
set_option maxRecDepth 100000
set_option linter.unusedSimpArgs false
set_option linter.unusedVariables false

theorem cond_and0 (P Q : Bool) : (bif P then Q else false) = (P && Q) := by cases P <;> rfl
noncomputable def s_impl_isFar : Sig := ⟨91, [.val .rat], [.val .bool], fun ((r : Rt), _) => ⟨[], (farRt r, ()), ()⟩⟩
theorem ok_impl_isFar : GSpec Tryz.prog s_impl_isFar := by
  refine fn_known tab_ok fol (((Known.nil.cons ok_impl_isRat (by kernel_rfl)).cons ok_impl_less (by kernel_rfl)).cons ok_impl_whole (by kernel_rfl)) (by decide) Tryz.func91 ?_
  rintro ⟨⟨(n : Int), (d : Int)⟩, ⟨⟩⟩ hl _
  repeat' (first | with_reducible apply andAll_cons | with_reducible apply andAll_nil | (with_reducible apply Cf.mk; kernel_rfl) | apply And.intro | intro _ | exact True.intro | apply Lf.mk)
  all_goals (try simp only [Bool.not_eq_true', Bool.not_eq_false', Bool.not_not, decide_eq_true_eq, decide_eq_false_iff_not, beq_iff_eq, bne_iff_ne, beq_eq_false_iff_ne, bne_eq_false_iff_eq, ne_eq, Bool.and_eq_true, Bool.and_eq_false_iff, Bool.or_eq_true, Bool.or_eq_false_iff, Int.toNat_natCast, Nat.zero_add, Int.ofNat_lt, Int.ofNat_le, List.length_cons, List.length_nil, List.drop_zero, List.take_length] at *)
  all_goals first
    | assumption
    | rfl
    | exact goodRt_iff.2 (by decide)
    | exact absurd (by assumption : false = true) (by decide)
    | contradiction
    | (try change @Eq Bool _ _
       first | (simp only [cond_and0] at *; rw [Bool.eq_iff_iff]; simp only [Bool.and_eq_true, farRt, inB, lessRt, Bool.not_eq_true', decide_eq_false_iff_not, decide_eq_true_eq]; constructor <;> (rintro h; simp only [*, true_and, and_true]; omega)) | (simp_all [farRt, lpOk, inB, lessRt]; done) | (rw [Bool.eq_iff_iff]; simp_all [farRt, lpOk, inB, lessRt]; omega) | trace_state)
noncomputable def s_impl_isLift_1 : Sig := ⟨85, [.val .pt], [.val .bool], fun ((p : Pt), _) => ⟨[], (!lpOk p, ()), ()⟩⟩
theorem ok_impl_isLift_1 : GSpec Tryz.prog s_impl_isLift_1 := by
  refine fn_known tab_ok fol ((((Known.nil.cons ok_impl_isCoord (by kernel_rfl)).cons ok_impl_isRat (by kernel_rfl)).cons ok_impl_less (by kernel_rfl)).cons ok_impl_whole (by kernel_rfl)) (by decide) Tryz.func85 ?_
  rintro ⟨⟨⟨(n : Int), (d : Int)⟩, ⟨(m : Int), (e : Int)⟩⟩, ⟨⟩⟩ hl _
  repeat' (first | with_reducible apply andAll_cons | with_reducible apply andAll_nil | (with_reducible apply Cf.mk; kernel_rfl) | apply And.intro | intro _ | exact True.intro | apply Lf.mk)
  all_goals (try simp only [Bool.not_eq_true', Bool.not_eq_false', Bool.not_not, decide_eq_true_eq, decide_eq_false_iff_not, beq_iff_eq, bne_iff_ne, beq_eq_false_iff_ne, bne_eq_false_iff_eq, ne_eq, Bool.and_eq_true, Bool.and_eq_false_iff, Bool.or_eq_true, Bool.or_eq_false_iff, Int.toNat_natCast, Nat.zero_add, Int.ofNat_lt, Int.ofNat_le, List.length_cons, List.length_nil, List.drop_zero, List.take_length] at *)
  all_goals first
    | assumption
    | rfl
    | exact goodRt_iff.2 (by decide)
    | exact absurd (by assumption : false = true) (by decide)
    | contradiction
    | (try change @Eq Bool _ _
       first | (simp only [cond_and0] at *; rw [Bool.eq_iff_iff]; simp only [Bool.and_eq_true, farRt, inB, lessRt, Bool.not_eq_true', decide_eq_false_iff_not, decide_eq_true_eq]; constructor <;> (rintro h; simp only [*, true_and, and_true]; omega)) | (simp_all [farRt, lpOk, inB, lessRt]; done) | (rw [Bool.eq_iff_iff]; simp_all [farRt, lpOk, inB, lessRt]; omega) | trace_state)
theorem q1 {A B : Bool} (h : A = true) (h2 : (bif !A then true else B) = true) : B = true := by subst h; exact h2
theorem q2 {A B : Bool} (h2 : (bif !A then true else B) = false) : B = false := by revert h2; cases A <;> cases B <;> decide
noncomputable def s_impl_isLift : Sig := ⟨65, [.lift .pt], [.val .bool], fun ((f : List Pt), _) => ⟨[], (liftOk f, ()), ()⟩⟩
theorem ok_impl_isLift : GSpec Tryz.prog s_impl_isLift := by
  refine fn_known tab_ok fol ((((((Known.nil.cons ok_impl_within (by kernel_rfl)).cons ok_lib_ContainsFuncPoint (by kernel_rfl)).cons ok_impl_isLift_1 (by kernel_rfl)).cons ok_impl_less (by kernel_rfl)).cons ok_impl_zero (by kernel_rfl)).cons ok_impl_oneRat (by kernel_rfl)) (by decide) Tryz.func65 ?_
  rintro ⟨(f : List Pt), ⟨⟩⟩ ⟨hl, _⟩ -
  have hl : f.length ≤ 9223372036854775807 := hl
  repeat' (first | with_reducible apply andAll_cons | with_reducible apply andAll_nil | (with_reducible apply Cf.mk; kernel_rfl) | apply And.intro | intro _ | exact True.intro | apply Lf.mk)
  all_goals (try simp only [Bool.not_eq_true', Bool.not_eq_false', Bool.not_not, decide_eq_true_eq, decide_eq_false_iff_not, beq_iff_eq, bne_iff_ne, beq_eq_false_iff_ne, bne_eq_false_iff_eq, ne_eq, Bool.and_eq_true, Bool.and_eq_false_iff, Bool.or_eq_true, Bool.or_eq_false_iff, Int.toNat_natCast, Nat.zero_add, Int.ofNat_lt, Int.ofNat_le, List.length_cons, List.length_nil, List.drop_zero, List.take_length] at *)
  all_goals first | omega | skip
  · rfl
  · rename_i h1 h2
    refine lift_no (fun h => ?_)
    obtain ⟨p, hp, h3⟩ := List.any_eq_true.1 h2
    obtain ⟨j, hj, rfl⟩ := List.mem_iff_getElem.1 hp
    have := h.2.1 j hj
    rw [getA_lt zP f j hj] at this
    rw [this] at h3; cases h3
  rotate_left
  · exact lift_no (fun h => by have h1 := of_decide_eq_false (by assumption : inB (f.length : Int) 2 12 = false); have := h.1; omega)
  rename_i h1 h2
  have hb := of_decide_eq_true h1
  have hq : ∀ i, i < f.length → lpOk (getA zP f i) = true := fun i hi => by
    have := List.any_eq_false.1 h2 _ (getA_mem zP hi)
    simpa using this
  have gx : ∀ i, i < f.length → goodRt (getA zP f i).x = true := fun i hi => coord_good (lpOk_iff.1 (hq i hi)).1
  have gy : ∀ i, i < f.length → goodRt (getA zP f i).y = true := fun i hi => (lpOk_iff.1 (hq i hi)).2.1
  refine ⟨Nat, fun i => ⟨[(4, .sc (.num .i64 ((i : Int) + 1)))], [100000, 1], []⟩, fun i => i + 1 ≤ f.length ∧ ∀ j, j < i → ltR (getA zP f j).x (getA zP f (j + 1)).x ∧ ¬ ltR (getA zP f (j + 1)).y (getA zP f j).y, fun i => f.length - i, ⟨0, ⟨by omega, fun j hj => by omega⟩, ?_⟩, ?_⟩
  · repeat' (first | apply And.intro | exact True.intro | exact Lf.mk (by with_reducible rfl) | apply Lf.mk)
    all_goals rfl
  · rintro i ⟨g1, g2⟩
    repeat' (first | with_reducible apply andAll_cons | with_reducible apply andAll_nil | (with_reducible apply Cf.mk; kernel_rfl) | apply And.intro | intro _ | exact True.intro | apply Lf.mk)
    all_goals (try simp only [Bool.not_eq_true', Bool.not_eq_false', Bool.not_not, decide_eq_true_eq, decide_eq_false_iff_not, beq_iff_eq, bne_iff_ne, beq_eq_false_iff_ne, bne_eq_false_iff_eq, ne_eq, Bool.and_eq_true, Bool.and_eq_false_iff, Bool.or_eq_true, Bool.or_eq_false_iff, Int.toNat_natCast, Nat.zero_add, Int.ofNat_lt, Int.ofNat_le, List.length_cons, List.length_nil, List.drop_zero, List.take_length] at *)
    all_goals (try simp only [show ((i : Int) + 1 - 1).toNat = i by omega, show ((i : Int) + 1).toNat = i + 1 by omega] at *)
    all_goals first
      | omega
      | exact gx _ (by omega)
      | exact gy _ (by omega)
      | exact absurd (by assumption : false = true) (by decide)
      | exact absurd (by assumption : true = false) (by decide)
      | (have b0 := lpOk_iff.1 (hq 0 (by omega)); first | (show -9223372036854775808 ≤ (getA zP f 0).y.num + (getA zP f 0).y.den; omega) | (show (getA zP f 0).y.num + (getA zP f 0).y.den ≤ 9223372036854775807; omega))
      | skip
    · rename_i h3 h4 h5
      refine lift_no (fun h => (h.2.2.1 i (by omega)).2 ?_)
      exact of_decide_eq_true (q1 h4 h5)
    · rename_i h3 h4 h5
      refine ⟨i + 1, ⟨by omega, fun j hj => ?_⟩, by omega, ?_⟩
      · rcases Nat.lt_or_eq_of_le (Nat.le_of_lt_succ hj) with h7 | h7
        · exact g2 j h7
        · subst h7; exact ⟨of_decide_eq_true h4, of_decide_eq_false (q2 h5)⟩
      · repeat' (first | apply And.intro | exact True.intro | exact Lf.mk (by with_reducible rfl) | apply Lf.mk)
        all_goals (rw [Int.natCast_add]; rfl)
    · rename_i h3 h4 h5
      exact lift_no (fun h => of_decide_eq_false h5 (h.2.2.1 i (by omega)).1)
    all_goals
      have e := lift_fin hb hq (fun j hj => g2 j (by omega))
      try simp only [show ((f.length : Int) - 1).toNat = f.length - 1 by omega] at *
      first | exact fin3 e | exact fin4 e (by assumption) | exact fin5 e (by assumption) | trace_state
noncomputable def s_impl_TurnLift : Sig := ⟨67, [.lift .pt, .val .rat], [.lift 76 .pt, .val .bool], fun ((f : List Pt), (y : Rt), _) => ⟨[liftOk f = true, farRt y = true], ((tuR f y).1, (tuR f y).2, ()), ()⟩⟩
theorem ok_impl_TurnLift : GSpec Tryz.prog s_impl_TurnLift := by
  refine fn_known tab_ok fol (((Known.nil.cons ok_impl_isLift (by kernel_rfl)).cons ok_impl_isFar (by kernel_rfl)).cons ok_calc_add (by kernel_rfl)) (by decide) Tryz.func67 ?_
  rintro ⟨(f : List Pt), ⟨(n : Int), (d : Int)⟩, ⟨⟩⟩ ⟨hl, _⟩ ⟨h1, h2, _⟩
  have hl : f.length ≤ 9223372036854775807 := hl
  have hf := liftOk_iff.1 h1
  have gy : goodRt ⟨n, d⟩ = true := far_good h2
  have hb := hf.1
  have ga : ∀ i, i < f.length → goodRt (getA zP f i).y = true := fun i hi => (lpOk_iff.1 (hf.2.1 i hi)).2.1
  repeat' (first | with_reducible apply andAll_cons | with_reducible apply andAll_nil | (with_reducible apply Cf.mk; kernel_rfl) | apply And.intro | intro _ | exact True.intro | apply Lf.mk)
  all_goals (try simp only [Bool.not_eq_true', Bool.not_eq_false', Bool.not_not, decide_eq_true_eq, decide_eq_false_iff_not, beq_iff_eq, bne_iff_ne, beq_eq_false_iff_ne, bne_eq_false_iff_eq, ne_eq, Bool.and_eq_true, Bool.and_eq_false_iff, Bool.or_eq_true, Bool.or_eq_false_iff, Int.toNat_natCast, Nat.zero_add, Int.ofNat_lt, Int.ofNat_le, List.length_cons, List.length_nil, List.drop_zero, List.take_length] at *)
  all_goals first | omega | (exact absurd (h1.symm.trans (by assumption)) (by decide)) | (exact absurd (h2.symm.trans (by assumption)) (by decide)) | skip
  refine ⟨Nat, fun i => ⟨[(22, .sc (.num .i64 i))], [100000, 2, 3, 4], [(6, .box cT [.bool (!tuOk (f.take i) ⟨n, d⟩)]), (7, .box 47 [.own 7777777]), (7777777, .row 76 .pt (tuL (f.take i) ⟨n, d⟩))]⟩, fun i => i ≤ f.length, fun i => f.length - i, ⟨0, Nat.zero_le _, ?_⟩, ?_⟩
  · repeat' (first | apply And.intro | exact True.intro | exact Lf.mk (by with_reducible rfl) | apply Lf.mk)
    all_goals first | rfl | simp | trace_state
  · intro i g1
    have hm : (tuL (f.take i) ⟨n, d⟩).length = i := by rw [tuL_length, List.length_take]; omega
    repeat' (first | with_reducible apply andAll_cons | with_reducible apply andAll_nil | (with_reducible apply Cf.mk; kernel_rfl) | apply And.intro | intro _ | exact True.intro | apply Lf.mk)
    all_goals simp only [hm] at *
    all_goals (try simp only [Bool.not_eq_true', Bool.not_eq_false', Bool.not_not, decide_eq_true_eq, decide_eq_false_iff_not, beq_iff_eq, bne_iff_ne, beq_eq_false_iff_ne, bne_eq_false_iff_eq, ne_eq, Bool.and_eq_true, Bool.and_eq_false_iff, Bool.or_eq_true, Bool.or_eq_false_iff, Int.toNat_natCast, Nat.zero_add, Int.ofNat_lt, Int.ofNat_le, List.length_cons, List.length_nil, List.drop_zero, List.take_length] at *)
    all_goals first | omega | exact ga _ (by omega) | exact gy | (show (_ + 1) * 32 ≤ 140737488355328; omega) | skip
    · refine ⟨i + 1, by omega, by omega, ?_⟩
      repeat' (first | apply And.intro | exact True.intro | exact Lf.mk (by with_reducible rfl) | apply Lf.mk)
      all_goals first | (rw [Int.natCast_add]; rfl) | exact tuL_succ (by assumption) | (rw [tuOk_succ (by assumption)]; cases tuOk (f.take i) ⟨n, d⟩ <;> rfl) | trace_state
    all_goals
      have e : f.take i = f := List.take_of_length_le (by omega)
      simp only [e] at *
      first
        | (rw [tuR_t (by simp_all)]; done)
        | (rw [tuR_f (by simp_all)]; done)
        | trace_state
noncomputable def s_impl_isFamily : Sig := ⟨44, [.lift .pt, .val NI], [.val .bool], fun ((f : List Pt), (d : Int), _) => ⟨[], (liftOk f && inB d 1 20, ()), ()⟩⟩
theorem ok_impl_isFamily : GSpec Tryz.prog s_impl_isFamily := by
  refine fn_known tab_ok fol ((Known.nil.cons ok_impl_isLift (by kernel_rfl)).cons ok_impl_within (by kernel_rfl)) (by decide) Tryz.func44 ?_
  rintro ⟨(f : List Pt), (d : Int), ⟨⟩⟩ ⟨hl, _⟩ -
  repeat' (first | with_reducible apply andAll_cons | with_reducible apply andAll_nil | (with_reducible apply Cf.mk; kernel_rfl) | apply And.intro | intro _ | exact True.intro | apply Lf.mk)
  all_goals (try simp only [Bool.not_eq_true', Bool.not_eq_false', Bool.not_not, decide_eq_true_eq, decide_eq_false_iff_not, beq_iff_eq, bne_iff_ne, beq_eq_false_iff_ne, bne_eq_false_iff_eq, ne_eq, Bool.and_eq_true, Bool.and_eq_false_iff, Bool.or_eq_true, Bool.or_eq_false_iff, Int.toNat_natCast, Nat.zero_add, Int.ofNat_lt, Int.ofNat_le, List.length_cons, List.length_nil, List.drop_zero, List.take_length] at *)
  all_goals first | rfl | (simp_all; done) | trace_state
noncomputable def s_impl_familyLift : Sig := ⟨46, [.lift .pt, .val NI, .val NI], [.lift 76 .pt, .val .bool], fun ((f : List Pt), (i : Int), (d : Int), _) => ⟨[liftOk f = true, 1 ≤ d, d ≤ 20, 0 ≤ i, i ≤ d], ((tuR f (lowRt i d).1).1, (tuR f (lowRt i d).1).2, ()), ()⟩⟩
theorem ok_impl_familyLift : GSpec Tryz.prog s_impl_familyLift := by
  refine fn_known tab_ok fol ((Known.nil.cons ok_impl_lowest (by kernel_rfl)).cons ok_impl_TurnLift (by kernel_rfl)) (by decide) Tryz.func46 ?_
  rintro ⟨(f : List Pt), (i : Int), (d : Int), ⟨⟩⟩ ⟨hl, _⟩ ⟨h1, h2, h3, h4, h5, _⟩
  obtain ⟨l1, l2, l3⟩ := fam_low h2 h3 h4 h5
  repeat' (first | with_reducible apply andAll_cons | with_reducible apply andAll_nil | (with_reducible apply Cf.mk; kernel_rfl) | apply And.intro | intro _ | exact True.intro | apply Lf.mk)
  all_goals (try simp only [Bool.not_eq_true', Bool.not_eq_false', Bool.not_not, decide_eq_true_eq, decide_eq_false_iff_not, beq_iff_eq, bne_iff_ne, beq_eq_false_iff_ne, bne_eq_false_iff_eq, ne_eq, Bool.and_eq_true, Bool.and_eq_false_iff, Bool.or_eq_true, Bool.or_eq_false_iff, Int.toNat_natCast, Nat.zero_add, Int.ofNat_lt, Int.ofNat_le, List.length_cons, List.length_nil, List.drop_zero, List.take_length] at *)
  all_goals first | omega | assumption | rfl | trace_state
noncomputable def s_impl_FamilyLift : Sig := ⟨22, [.lift .pt, .val NI, .val NI], [.lift 76 .pt, .val .bool], fun ((f : List Pt), (i : Int), (d : Int), _) => ⟨[], ((famR f i d).1, (famR f i d).2, ()), ()⟩⟩
noncomputable def s_spec_FamilyLift : Sig := ⟨23, [.lift .pt, .val NI, .val NI], [.lift 76 .pt, .val .bool], fun ((f : List Pt), (i : Int), (d : Int), _) => ⟨[], ((famR f i d).1, (famR f i d).2, ()), ()⟩⟩
theorem ok_impl_FamilyLift : GSpec Tryz.prog s_impl_FamilyLift := by
  refine fn_known tab_ok fol (((Known.nil.cons ok_impl_isFamily (by kernel_rfl)).cons ok_impl_within (by kernel_rfl)).cons ok_impl_familyLift (by kernel_rfl)) (by decide) Tryz.func22 ?_
  rintro ⟨(f : List Pt), (i : Int), (d : Int), ⟨⟩⟩ ⟨hl, _⟩ -
  repeat' (first | with_reducible apply andAll_cons | with_reducible apply andAll_nil | (with_reducible apply Cf.mk; kernel_rfl) | apply And.intro | intro _ | exact True.intro | apply Lf.mk)
  all_goals (try simp only [Bool.not_eq_true', Bool.not_eq_false', Bool.not_not, decide_eq_true_eq, decide_eq_false_iff_not, beq_iff_eq, bne_iff_ne, beq_eq_false_iff_ne, bne_eq_false_iff_eq, ne_eq, Bool.and_eq_true, Bool.and_eq_false_iff, Bool.or_eq_true, Bool.or_eq_false_iff, Int.toNat_natCast, Nat.zero_add, Int.ofNat_lt, Int.ofNat_le, List.length_cons, List.length_nil, List.drop_zero, List.take_length] at *)
  all_goals first
    | (rw [famR_t (by simp_all)]; done)
    | (rw [famR_f (by rcases (by assumption : liftOk f = false ∨ inB d 1 20 = false) with h | h <;> simp [h])]; done)
    | (rw [famR_f (by simp_all)]; done)
    | (obtain ⟨a, b⟩ := (by assumption : liftOk f = true ∧ inB d 1 20 = true)
       have b := of_decide_eq_true b
       have c := of_decide_eq_true (by assumption : inB i 0 d = true)
       first | assumption | omega)
    | trace_state
theorem lf_no1 {f : List Pt} {i : Nat} (hi : i < f.length) (h : coordRt (getA zP f i).x = false) : false = liftOk f := lift_no (fun e => by have := (lpOk_iff.1 (e.2.1 i hi)).1; rw [h] at this; cases this)
theorem lf_no2 {f : List Pt} {i : Nat} (hi : i < f.length) (h : goodRt (getA zP f i).y = false) : false = liftOk f := lift_no (fun e => by have := (lpOk_iff.1 (e.2.1 i hi)).2.1; rw [h] at this; cases this)
theorem lf_no3 {f : List Pt} {i : Nat} (hi : i < f.length) (h : 100 < (getA zP f i).y.den) : false = liftOk f := lift_no (fun e => by have := (lpOk_iff.1 (e.2.1 i hi)).2.2.1; omega)
theorem lf_no4 {f : List Pt} {i : Nat} (hi : i < f.length) (h : inB (getA zP f i).y.num (-5 * (getA zP f i).y.den) (5 * (getA zP f i).y.den) = false) : false = liftOk f := lift_no (fun e => by have h1 := (lpOk_iff.1 (e.2.1 i hi)).2.2.2; have h2 := of_decide_eq_false h; omega)
theorem lf_no5 {f : List Pt} {i : Nat} (hi : i < f.length) (h0 : (0 : Int) < i) (h : 0 ≤ cmpRt (getA zP f ((i : Int) - 1).toNat).x (getA zP f i).x) : false = liftOk f := lift_no (fun e => by
  rw [pred_nat h0] at h
  have h1 := (e.2.2.1 (i - 1) (by omega)).1
  rw [show i - 1 + 1 = i by omega] at h1
  have := cmpRt_neg.2 h1; omega)
theorem cmp_pos {a b : Rt} (h : 0 < cmpRt a b) : ltR b a := by
  unfold cmpRt sgn at h; split at h <;> (try split at h) <;> (show _ < _; omega)
theorem lf_no6 {f : List Pt} {i : Nat} (hi : i < f.length) (h0 : (0 : Int) < i) (h : 0 < cmpRt (getA zP f ((i : Int) - 1).toNat).y (getA zP f i).y) : false = liftOk f := lift_no (fun e => by
  rw [pred_nat h0] at h
  have h1 := (e.2.2.1 (i - 1) (by omega)).2
  rw [show i - 1 + 1 = i by omega] at h1
  exact h1 (cmp_pos h))
theorem lf_yes {f : List Pt} {i : Nat} (h1 : coordRt (getA zP f i).x = true) (h2 : goodRt (getA zP f i).y = true) (h3 : ¬ 100 < (getA zP f i).y.den) (h4 : inB (getA zP f i).y.num (-5 * (getA zP f i).y.den) (5 * (getA zP f i).y.den) = true) : lpOk (getA zP f i) = true :=
  lpOk_iff.2 ⟨h1, h2, by omega, of_decide_eq_true h4⟩
theorem cmp_z {a b : Rt} (ha : goodRt a = true) (hb : goodRt b = true) : eqRt a b = (cmpRt a b == 0) := by unfold eqRt; rw [cmp_zero ha hb]
theorem lift_fin2 {f : List Pt} (hb : 2 ≤ (f.length : Int) ∧ (f.length : Int) ≤ 12) (hq : ∀ i, i < f.length → lpOk (getA zP f i) = true) (g : ∀ i, i + 1 < f.length → ltR (getA zP f i).x (getA zP f (i + 1)).x ∧ ¬ ltR (getA zP f (i + 1)).y (getA zP f i).y) :
    liftOk f = ((cmpRt (getA zP f (Int.toNat 0)).x ⟨0, 1⟩ == 0) && ((cmpRt (getA zP f ((f.length : Int) - 1).toNat).x ⟨1, 1⟩ == 0) && eqRt (getA zP f ((f.length : Int) - 1).toNat).y ⟨(getA zP f (Int.toNat 0)).y.num + 1 * (getA zP f (Int.toNat 0)).y.den, (getA zP f (Int.toNat 0)).y.den⟩)) := by
  rw [lift_fin hb hq g, show ((f.length : Int) - 1).toNat = f.length - 1 by omega, show Int.toNat 0 = 0 from rfl, cmp_z (coord_good (lpOk_iff.1 (hq 0 (by omega))).1) good_zero, cmp_z (coord_good (lpOk_iff.1 (hq (f.length - 1) (by omega))).1) good_one, Int.one_mul]
theorem b6 {A B C : Bool} (h1 : (bif A then (bif B then true else C) else false) = true) (h2 : B = false) : C = true := by revert h1; subst h2; cases A <;> cases C <;> decide
theorem b7' {A B C : Bool} (h1 : (bif A then (bif B then true else C) else false) = false) (h0 : A = true) (_ : B = false) : C = false := by revert h1; subst h0; cases B <;> cases C <;> decide
theorem cmp_pos' {a b : Rt} (h : ltR b a) : 0 < cmpRt a b := by
  have h : b.num * a.den < a.num * b.den := h
  unfold cmpRt sgn; split <;> (try split) <;> omega
theorem b7 {A B C : Bool} (h1 : (bif A then (bif B then true else C) else false) = false) (h0 : A = true) : C = false := by revert h1; subst h0; cases B <;> cases C <;> decide
noncomputable def s_spec_liGood : Sig := ⟨47, [.lift .pt], [.val .bool], fun ((f : List Pt), _) => ⟨[], (liftOk f, ()), ()⟩⟩
noncomputable def s_spec_liPlus : Sig := ⟨70, [.val .rat, .val NI], [.val .rat], fun ((r : Rt), (k : Int), _) => ⟨[goodRt r = true, -1000 ≤ k, k ≤ 1000], ((⟨r.num + k * r.den, r.den⟩ : Rt), ()), ()⟩⟩
theorem ok_spec_liPlus : GSpec Tryz.prog s_spec_liPlus := by
  refine fn_known tab_ok fol Known.nil (by decide) Tryz.func70 ?_
  rintro ⟨⟨(n : Int), (d : Int)⟩, (k : Int), ⟨⟩⟩ - ⟨h1, h2, h3, _⟩
  have hg := goodRt_iff.1 h1
  dsimp only at hg
  have m1 := mul_bd (A := 1000) (B := 1000000000) (a := k) (b := d) (by omega) (by omega) (by omega) (by omega) (by omega)
  repeat' (first | with_reducible apply andAll_cons | with_reducible apply andAll_nil | (with_reducible apply Cf.mk; kernel_rfl) | apply And.intro | intro _ | exact True.intro | apply Lf.mk)
  all_goals (try simp only [Bool.not_eq_true', Bool.not_eq_false', Bool.not_not, decide_eq_true_eq, decide_eq_false_iff_not, beq_iff_eq, bne_iff_ne, beq_eq_false_iff_ne, bne_eq_false_iff_eq, ne_eq, Bool.and_eq_true, Bool.and_eq_false_iff, Bool.or_eq_true, Bool.or_eq_false_iff, Int.toNat_natCast, Nat.zero_add, Int.ofNat_lt, Int.ofNat_le, List.length_cons, List.length_nil, List.drop_zero, List.take_length] at *)
  all_goals first | omega | rfl | trace_state
theorem ok_spec_liGood : GSpec Tryz.prog s_spec_liGood := by
  refine fn_known tab_ok fol ((((((Known.nil.cons ok_spec_l1In (by kernel_rfl)).cons ok_spec_imCoord (by kernel_rfl)).cons ok_spec_raGood (by kernel_rfl)).cons ok_spec_raCmp (by kernel_rfl)).cons ok_spec_raInt (by kernel_rfl)).cons ok_spec_liPlus (by kernel_rfl)) (by decide) Tryz.func47 ?_
  rintro ⟨(f : List Pt), ⟨⟩⟩ ⟨hl, _⟩ -
  have hl : f.length ≤ 9223372036854775807 := hl
  repeat' (first | with_reducible apply andAll_cons | with_reducible apply andAll_nil | (with_reducible apply Cf.mk; kernel_rfl) | apply And.intro | intro _ | exact True.intro | apply Lf.mk)
  all_goals (try simp only [Bool.not_eq_true', Bool.not_eq_false', Bool.not_not, decide_eq_true_eq, decide_eq_false_iff_not, beq_iff_eq, bne_iff_ne, beq_eq_false_iff_ne, bne_eq_false_iff_eq, ne_eq, Bool.and_eq_true, Bool.and_eq_false_iff, Bool.or_eq_true, Bool.or_eq_false_iff, Int.toNat_natCast, Nat.zero_add, Int.ofNat_lt, Int.ofNat_le, List.length_cons, List.length_nil, List.drop_zero, List.take_length] at *)
  all_goals first | omega | skip
  · exact lift_no (fun h => by have h1 := of_decide_eq_false (by assumption : inB (f.length : Int) 2 12 = false); have := h.1; omega)
  rename_i h1
  have hb := of_decide_eq_true h1
  refine ⟨Nat, fun i => ⟨[(17, .sc (.num .i64 i))], [100000, 1], []⟩, fun i => i ≤ f.length ∧ (∀ j, j < i → lpOk (getA zP f j) = true) ∧ ∀ j, j + 1 < i → ltR (getA zP f j).x (getA zP f (j + 1)).x ∧ ¬ ltR (getA zP f (j + 1)).y (getA zP f j).y, fun i => f.length - i, ⟨0, ⟨Nat.zero_le _, fun j hj => by omega, fun j hj => by omega⟩, ?_⟩, ?_⟩
  · repeat' (first | apply And.intro | exact True.intro | exact Lf.mk (by with_reducible rfl) | apply Lf.mk)
    all_goals rfl
  · rintro i ⟨g1, g2, g3⟩
    repeat' (first | with_reducible apply andAll_cons | with_reducible apply andAll_nil | (with_reducible apply Cf.mk; kernel_rfl) | apply And.intro | intro _ | exact True.intro | apply Lf.mk)
    all_goals (try simp only [Bool.not_eq_true', Bool.not_eq_false', Bool.not_not, decide_eq_true_eq, decide_eq_false_iff_not, beq_iff_eq, bne_iff_ne, beq_eq_false_iff_ne, bne_eq_false_iff_eq, ne_eq, Bool.and_eq_true, Bool.and_eq_false_iff, Bool.or_eq_true, Bool.or_eq_false_iff, Int.toNat_natCast, Nat.zero_add, Int.ofNat_lt, Int.ofNat_le, List.length_cons, List.length_nil, List.drop_zero, List.take_length] at *)
    all_goals first
      | omega
      | contradiction
      | exact good_zero
      | exact good_one
      | exact coord_good (by assumption)
      | assumption
      | exact (lpOk_iff.1 (g2 _ (by omega))).2.1
      | exact coord_good (lpOk_iff.1 (g2 _ (by omega))).1
      | exact lf_no1 (by assumption) (by assumption)
      | exact lf_no2 (by assumption) (by assumption)
      | exact lf_no3 (by assumption) (by assumption)
      | exact lf_no4 (by assumption) (by assumption)
      | exact lf_no5 (by assumption) (by assumption) (by assumption)
      | exact lf_no6 (by assumption) (by assumption) (of_decide_eq_true (b6 (by assumption) (decide_eq_false (by assumption))))
      | exact absurd (by assumption : true = false) (by decide)
      | exact absurd (by assumption : false = true) (by decide)
      | (have := goodRt_iff.1 (by assumption : goodRt (getA zP f i).y = true); first | (show -5 * (getA zP f i).y.den ≤ 9223372036854775807; omega) | (show -9223372036854775808 ≤ 5 * (getA zP f i).y.den; omega) | (show -9223372036854775808 ≤ -5 * (getA zP f i).y.den; omega) | (show 5 * (getA zP f i).y.den ≤ 9223372036854775807; omega))
      | exact coord_good (lpOk_iff.1 (g2 (f.length - 1) (by omega))).1
      | exact (lpOk_iff.1 (g2 (f.length - 1) (by omega))).2.1
      | exact absurd (lf_no1 (by assumption) (by assumption)) (by assumption)
      | skip
    · rename_i a1 a2 a3 a4 a5 a6 a7 a8
      have ey := lf_yes a2 a3 a4 a5
      refine ⟨i + 1, ⟨by omega, fun j hj => ?_, fun j hj => ?_⟩, by omega, ?_⟩
      · rcases Nat.lt_or_eq_of_le (Nat.le_of_lt_succ hj) with h7 | h7
        · exact g2 j h7
        · subst h7; exact ey
      · rcases Nat.lt_or_eq_of_le (Nat.le_of_lt_succ hj) with h7 | h7
        · exact g3 j h7
        · subst h7
          have e1 : ((((j + 1 : Nat) : Int)) - 1).toNat = j := by omega
          rw [e1] at a7 a8
          exact ⟨cmpRt_neg.1 (Int.not_le.1 a7), fun h => by have := of_decide_eq_false (b7' a8 (decide_eq_true a6) (decide_eq_false a7)); exact this (cmp_pos' h)⟩
      · repeat' (first | apply And.intro | exact True.intro | exact Lf.mk (by with_reducible rfl) | apply Lf.mk)
        all_goals (rw [Int.natCast_add]; rfl)
    · rename_i a1 a2 a3 a4 a5 a6 a7 a8
      rw [decide_eq_true a7] at a1; cases a1
    · rename_i a2 a3 a4 a5 a6 a7 a8
      have ey := lf_yes a3 a4 a5 a6
      have hi : i = 0 := by omega
      subst hi
      refine ⟨1, ⟨by omega, fun j hj => ?_, fun j hj => by omega⟩, by omega, ?_⟩
      · rw [show j = 0 by omega]; exact ey
      · repeat' (first | apply And.intro | exact True.intro | exact Lf.mk (by with_reducible rfl) | apply Lf.mk)
        all_goals rfl
    all_goals
      have e := lift_fin2 hb (fun j hj => g2 j (by omega)) (fun j hj => g3 j (by omega))
      first | exact fin3 e | exact fin4 e (by assumption) | exact fin5 e (by assumption) | exact fin5 e (beq_false_of_ne (by assumption)) | trace_state
theorem if_t {f : List Pt} (h : liftOk f = true) : (match liftOk f with | true => (f, true) | false => (([] : List Pt), false)) = (f, true) := by rw [h]
noncomputable def ifR (f : List Pt) : List Pt × Bool := match liftOk f with
  | true => (f, true)
  | false => ([], false)
theorem ifR_t {f : List Pt} (h : liftOk f = true) : ifR f = (f, true) := by unfold ifR; rw [h]
theorem ifR_f {f : List Pt} (h : liftOk f = false) : ifR f = ([], false) := by unfold ifR; rw [h]
noncomputable def s_spec_liIf : Sig := ⟨94, [.own 76 .pt], [.lift 76 .pt, .val .bool], fun ((f : List Pt), _) => ⟨[], ((ifR f).1, (ifR f).2, ()), ()⟩⟩
theorem ok_spec_liIf : GSpec Tryz.prog s_spec_liIf := by
  refine fn_known tab_ok fol (Known.nil.cons ok_spec_liGood (by kernel_rfl)) (by decide) Tryz.func94 ?_
  rintro ⟨(f : List Pt), ⟨⟩⟩ - -
  repeat' (first | with_reducible apply andAll_cons | with_reducible apply andAll_nil | (with_reducible apply Cf.mk; kernel_rfl) | apply And.intro | intro _ | exact True.intro | apply Lf.mk)
  all_goals (try simp only [Bool.not_eq_true', Bool.not_eq_false', Bool.not_not, decide_eq_true_eq, decide_eq_false_iff_not, beq_iff_eq, bne_iff_ne, beq_eq_false_iff_ne, bne_eq_false_iff_eq, ne_eq, Bool.and_eq_true, Bool.and_eq_false_iff, Bool.or_eq_true, Bool.or_eq_false_iff, Int.toNat_natCast, Nat.zero_add, Int.ofNat_lt, Int.ofNat_le, List.length_cons, List.length_nil, List.drop_zero, List.take_length] at *)
  all_goals first | (rw [ifR_t (by assumption)]; done) | (rw [ifR_f (by assumption)]; done) | trace_state
theorem tuL_succ' {f : List Pt} {y : Rt} {i : Nat} (h : i < f.length) (h2 : (addRt (getA zP f i).y y).2 = true) : tuL (f.take i) y ++ [⟨(getA zP f i).x, (addRt (getA zP f i).y y).1⟩] = tuL (f.take (i + 1)) y := by
  rw [← tuL_succ h, opR_t h2]
noncomputable def s_spec_liTurn : Sig := ⟨72, [.lift .pt, .val .rat], [.lift 76 .pt, .val .bool], fun ((f : List Pt), (y : Rt), _) => ⟨[liftOk f = true, goodRt y = true], ((tuR f y).1, (tuR f y).2, ()), ()⟩⟩
theorem ok_spec_liTurn : GSpec Tryz.prog s_spec_liTurn := by
  refine fn_known tab_ok fol ((Known.nil.cons ok_spec_raAdd (by kernel_rfl)).cons ok_spec_liIf (by kernel_rfl)) (by decide) Tryz.func72 ?_
  rintro ⟨(f : List Pt), ⟨(n : Int), (d : Int)⟩, ⟨⟩⟩ ⟨hl, _⟩ ⟨h1, gy, _⟩
  have hl : f.length ≤ 9223372036854775807 := hl
  have hf := liftOk_iff.1 h1
  have hb := hf.1
  have ga : ∀ i, i < f.length → okRt (getA zP f i).y = true := fun i hi => ok_good (lpOk_iff.1 (hf.2.1 i hi)).2.1
  have gy' := ok_good gy
  refine ⟨Nat, fun i => ⟨[(14, .sc (.num .i64 i)), (6, .sc (.own 7777777))], [100000, 2, 3, 4], [(7777777, .row 76 .pt (tuL (f.take i) ⟨n, d⟩))]⟩, fun i => i ≤ f.length ∧ tuOk (f.take i) ⟨n, d⟩ = true, fun i => f.length - i, ⟨0, ⟨Nat.zero_le _, rfl⟩, ?_⟩, ?_⟩
  · repeat' (first | apply And.intro | exact True.intro | exact Lf.mk (by with_reducible rfl) | apply Lf.mk)
    all_goals first | rfl | simp | trace_state
  · rintro i ⟨g1, g2⟩
    have hm : (tuL (f.take i) ⟨n, d⟩).length = i := by rw [tuL_length, List.length_take]; omega
    repeat' (first | with_reducible apply andAll_cons | with_reducible apply andAll_nil | (with_reducible apply Cf.mk; kernel_rfl) | apply And.intro | intro _ | exact True.intro | apply Lf.mk)
    all_goals simp only [hm] at *
    all_goals (try simp only [Bool.not_eq_true', Bool.not_eq_false', Bool.not_not, decide_eq_true_eq, decide_eq_false_iff_not, beq_iff_eq, bne_iff_ne, beq_eq_false_iff_ne, bne_eq_false_iff_eq, ne_eq, Bool.and_eq_true, Bool.and_eq_false_iff, Bool.or_eq_true, Bool.or_eq_false_iff, Int.toNat_natCast, Nat.zero_add, Int.ofNat_lt, Int.ofNat_le, List.length_cons, List.length_nil, List.drop_zero, List.take_length] at *)
    all_goals first | omega | exact ga _ (by omega) | exact gy' | (show (_ + 1) * 32 ≤ 140737488355328; omega) | skip
    · rw [tuR_f (by rw [tuOk_not (i := i) (by assumption) (by assumption)]; rfl)]
    · rw [tuR_f (by rw [tuOk_not (i := i) (by assumption) (by assumption)]; rfl)]
    · rename_i h3 h4
      refine ⟨i + 1, ⟨by omega, by rw [tuOk_succ h3, g2]; exact h4⟩, by omega, ?_⟩
      repeat' (first | apply And.intro | exact True.intro | exact Lf.mk (by with_reducible rfl) | apply Lf.mk)
      all_goals first | (rw [Int.natCast_add]; rfl) | exact tuL_succ' h3 h4 | trace_state
    all_goals
      have e : f.take i = f := List.take_of_length_le (by omega)
      rw [e] at g2 ⊢
      cases hh : liftOk (tuL f ⟨n, d⟩) with
      | true => rw [ifR_t hh, tuR_t (by rw [g2, hh]; rfl)]
      | false => rw [ifR_f hh, tuR_f (by rw [g2, hh]; rfl)]
noncomputable def s_spec_lkFamily : Sig := ⟨48, [.val NI], [.val .bool], fun ((d : Int), _) => ⟨[], (inB d 1 20, ()), ()⟩⟩
theorem ok_spec_lkFamily : GSpec Tryz.prog s_spec_lkFamily := by
  refine fn_known tab_ok fol (Known.nil.cons ok_spec_l1In (by kernel_rfl)) (by decide) Tryz.func48 ?_
  rintro ⟨(d : Int), ⟨⟩⟩ - -
  repeat' (first | with_reducible apply andAll_cons | with_reducible apply andAll_nil | (with_reducible apply Cf.mk; kernel_rfl) | apply And.intro | intro _ | exact True.intro | apply Lf.mk)
  all_goals (try simp only [Bool.not_eq_true', Bool.not_eq_false', Bool.not_not, decide_eq_true_eq, decide_eq_false_iff_not, beq_iff_eq, bne_iff_ne, beq_eq_false_iff_ne, bne_eq_false_iff_eq, ne_eq, Bool.and_eq_true, Bool.and_eq_false_iff, Bool.or_eq_true, Bool.or_eq_false_iff, Int.toNat_natCast, Nat.zero_add, Int.ofNat_lt, Int.ofNat_le, List.length_cons, List.length_nil, List.drop_zero, List.take_length] at *)
noncomputable def s_spec_lkLift : Sig := ⟨50, [.lift .pt, .val NI, .val NI], [.lift 76 .pt, .val .bool], fun ((f : List Pt), (i : Int), (d : Int), _) => ⟨[liftOk f = true, 1 ≤ d, d ≤ 20, 0 ≤ i, i ≤ d], ((tuR f (lowRt i d).1).1, (tuR f (lowRt i d).1).2, ()), ()⟩⟩
theorem ok_spec_lkLift : GSpec Tryz.prog s_spec_lkLift := by
  refine fn_known tab_ok fol ((Known.nil.cons ok_spec_raMake (by kernel_rfl)).cons ok_spec_liTurn (by kernel_rfl)) (by decide) Tryz.func50 ?_
  rintro ⟨(f : List Pt), (i : Int), (d : Int), ⟨⟩⟩ ⟨hl, _⟩ ⟨h1, h2, h3, h4, h5, _⟩
  obtain ⟨l1, l2, l3⟩ := fam_low h2 h3 h4 h5
  repeat' (first | with_reducible apply andAll_cons | with_reducible apply andAll_nil | (with_reducible apply Cf.mk; kernel_rfl) | apply And.intro | intro _ | exact True.intro | apply Lf.mk)
  all_goals (try simp only [Bool.not_eq_true', Bool.not_eq_false', Bool.not_not, decide_eq_true_eq, decide_eq_false_iff_not, beq_iff_eq, bne_iff_ne, beq_eq_false_iff_ne, bne_eq_false_iff_eq, ne_eq, Bool.and_eq_true, Bool.and_eq_false_iff, Bool.or_eq_true, Bool.or_eq_false_iff, Int.toNat_natCast, Nat.zero_add, Int.ofNat_lt, Int.ofNat_le, List.length_cons, List.length_nil, List.drop_zero, List.take_length] at *)
  all_goals first | omega | assumption | rfl | trace_state
theorem ok_spec_FamilyLift : GSpec Tryz.prog s_spec_FamilyLift := by
  refine fn_known tab_ok fol ((((Known.nil.cons ok_spec_liGood (by kernel_rfl)).cons ok_spec_lkFamily (by kernel_rfl)).cons ok_spec_l1In (by kernel_rfl)).cons ok_spec_lkLift (by kernel_rfl)) (by decide) Tryz.func23 ?_
  rintro ⟨(f : List Pt), (i : Int), (d : Int), ⟨⟩⟩ ⟨hl, _⟩ -
  repeat' (first | with_reducible apply andAll_cons | with_reducible apply andAll_nil | (with_reducible apply Cf.mk; kernel_rfl) | apply And.intro | intro _ | exact True.intro | apply Lf.mk)
  all_goals (try simp only [Bool.not_eq_true', Bool.not_eq_false', Bool.not_not, decide_eq_true_eq, decide_eq_false_iff_not, beq_iff_eq, bne_iff_ne, beq_eq_false_iff_ne, bne_eq_false_iff_eq, ne_eq, Bool.and_eq_true, Bool.and_eq_false_iff, Bool.or_eq_true, Bool.or_eq_false_iff, Int.toNat_natCast, Nat.zero_add, Int.ofNat_lt, Int.ofNat_le, List.length_cons, List.length_nil, List.drop_zero, List.take_length] at *)
  all_goals first
    | (rw [famR_t (by simp_all)]; done)
    | (rw [famR_f (by simp_all)]; done)
    | assumption
    | (have b := of_decide_eq_true (by assumption : inB d 1 20 = true)
       have c := of_decide_eq_true (by assumption : inB i 0 d = true)
       omega)
    | trace_state

end Go.Vx
