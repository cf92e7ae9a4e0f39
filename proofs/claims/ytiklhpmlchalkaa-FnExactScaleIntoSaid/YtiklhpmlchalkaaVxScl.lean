/- Scaling into and out of an interval, and the part of an image in it: the program's functions and the reference's. -/
import Derived.Test.YtiklhpmlchalkaaVxRst
namespace Go.Vx
open Go Go.Proofs
set_option maxRecDepth 100000
set_option linter.unusedSimpArgs false
set_option linter.unusedVariables false

@[irreducible] noncomputable def scOut (i : Iv) (x : Rt) : Rt × Bool := match (subRt x i.a).2 with
  | true => match (subRt i.b i.a).2 with
    | true => divRt (subRt x i.a).1 (subRt i.b i.a).1
    | false => (⟨0, 0⟩, false)
  | false => (⟨0, 0⟩, false)
theorem scOut_1 {i : Iv} {x : Rt} (h : (subRt x i.a).2 = false) : scOut i x = (⟨0, 0⟩, false) := by unfold scOut; rw [h]
theorem scOut_2 {i : Iv} {x : Rt} (h : (subRt i.b i.a).2 = false) : scOut i x = (⟨0, 0⟩, false) := by unfold scOut; rw [h]; cases (subRt x i.a).2 <;> rfl
theorem scOut_3 {i : Iv} {x : Rt} (h : (subRt x i.a).2 = true) (h2 : (subRt i.b i.a).2 = true) : scOut i x = divRt (subRt x i.a).1 (subRt i.b i.a).1 := by unfold scOut; rw [h, h2]
@[irreducible] noncomputable def scO (i : Iv) (x : Rt) : Rt := opR (divRt (opR (subRt x i.a)) (opR (subRt i.b i.a)))
theorem scOut_flag (c : Bool) (i : Iv) (x : Rt) : (((c || !(subRt x i.a).2) || !(subRt i.b i.a).2) || !(divRt (opR (subRt x i.a)) (opR (subRt i.b i.a))).2) = (c || !(scOut i x).2) := by
  cases h1 : (subRt x i.a).2 with
  | false => rw [scOut_1 h1]; simp
  | true =>
    cases h2 : (subRt i.b i.a).2 with
    | false => rw [scOut_2 h2]; simp
    | true => rw [scOut_3 h1 h2, opR_t h1, opR_t h2]; simp
theorem scO_t {i : Iv} {x : Rt} (h : (scOut i x).2 = true) : scO i x = (scOut i x).1 := by
  cases h1 : (subRt x i.a).2 with
  | false => rw [scOut_1 h1] at h; cases h
  | true =>
    cases h2 : (subRt i.b i.a).2 with
    | false => rw [scOut_2 h2] at h; cases h
    | true =>
      rw [scOut_3 h1 h2] at h ⊢
      unfold scO
      rw [opR_t h1, opR_t h2, opR_t h]
theorem scOut_bad {i : Iv} {x : Rt} (h : (scOut i x).2 = false) : scOut i x = (⟨0, 0⟩, false) := by
  cases h1 : (subRt x i.a).2 with
  | false => exact scOut_1 h1
  | true =>
    cases h2 : (subRt i.b i.a).2 with
    | false => exact scOut_2 h2
    | true => rw [scOut_3 h1 h2] at h ⊢; exact lowRt_bad h
noncomputable def s_calc_scaleOut : Sig := ⟨58, [.cell cT .bool, .val .iv, .val .rat], [.val .rat], fun ((c : Bool), (i : Iv), (x : Rt), _) => ⟨[ivOk i = true, goodRt x = true], (scO i x, ()), (c || !(scOut i x).2, ())⟩⟩
theorem ok_calc_scaleOut : GSpec Try.prog s_calc_scaleOut := by
  refine fn_known tab_ok fol ((Known.nil.cons ok_calc_sub (by kernel_rfl)).cons ok_calc_div (by kernel_rfl)) (by decide) Try.func58 ?_
  rintro ⟨(c : Bool), ⟨⟨(n : Int), (d : Int)⟩, ⟨(m : Int), (e : Int)⟩⟩, ⟨(n' : Int), (d' : Int)⟩, ⟨⟩⟩ - ⟨h1, h2, _⟩
  obtain ⟨u1, u2, u3⟩ := ivOk_iff.1 h1
  have hf := scOut_flag c ⟨⟨n, d⟩, ⟨m, e⟩⟩ ⟨n', d'⟩
  dsimp only at *
  repeat' (first | with_reducible apply andAll_cons | with_reducible apply andAll_nil | (with_reducible apply Cf.mk; kernel_rfl) | apply And.intro | intro _ | exact True.intro | apply Lf.mk)
  all_goals first | assumption | exact unit_good (by assumption) | exact opR_good | exact hf | (unfold scO; rfl) | skip
noncomputable def soOk (i : Iv) (x : Rt) : Bool := ivOk i && (unitRt x && hasR i x)
noncomputable def soRes (i : Iv) (x : Rt) : Rt × Bool := match soOk i x with
  | true => scOut i x
  | false => (⟨0, 0⟩, false)
theorem so_f1 {i : Iv} {x : Rt} (h : ivOk i = false) : soRes i x = (⟨0, 0⟩, false) := by unfold soRes soOk; rw [h]; rfl
theorem so_f2 {i : Iv} {x : Rt} (h : unitRt x = false) : soRes i x = (⟨0, 0⟩, false) := by unfold soRes soOk; rw [h]; cases ivOk i <;> rfl
theorem so_f3 {i : Iv} {x : Rt} (h : hasR i x = false) : soRes i x = (⟨0, 0⟩, false) := by unfold soRes soOk; rw [h]; cases ivOk i <;> cases unitRt x <;> rfl
theorem so_t {i : Iv} {x : Rt} (h : ivOk i = true) (h2 : unitRt x = true) (h3 : hasR i x = true) : soRes i x = scOut i x := by unfold soRes soOk; rw [h, h2, h3]; rfl
noncomputable def s_impl_ScaleOut : Sig := ⟨18, [.val .iv, .val .rat], [.val .rat, .val .bool], fun ((i : Iv), (x : Rt), _) => ⟨[], ((soRes i x).1, (soRes i x).2, ()), ()⟩⟩
noncomputable def s_spec_ScaleOut : Sig := ⟨17, [.val .iv, .val .rat], [.val .rat, .val .bool], fun ((i : Iv), (x : Rt), _) => ⟨[], ((soRes i x).1, (soRes i x).2, ()), ()⟩⟩
noncomputable def s_spec_rnOut : Sig := ⟨56, [.val .iv, .val .rat], [.val .rat, .val .bool], fun ((i : Iv), (x : Rt), _) => ⟨[ivOk i = true, goodRt x = true], ((scOut i x).1, (scOut i x).2, ()), ()⟩⟩
theorem ok_impl_ScaleOut : GSpec Try.prog s_impl_ScaleOut := by
  refine fn_known tab_ok fol ((((Known.nil.cons ok_impl_isInterval (by kernel_rfl)).cons ok_impl_isUnit (by kernel_rfl)).cons ok_impl_isIn (by kernel_rfl)).cons ok_calc_scaleOut (by kernel_rfl)) (by decide) Try.func18 ?_
  rintro ⟨⟨⟨(n : Int), (d : Int)⟩, ⟨(m : Int), (e : Int)⟩⟩, ⟨(n' : Int), (d' : Int)⟩, ⟨⟩⟩ - -
  repeat' (first | with_reducible apply andAll_cons | with_reducible apply andAll_nil | (with_reducible apply Cf.mk; kernel_rfl) | apply And.intro | intro _ | exact True.intro | apply Lf.mk)
  all_goals (try simp only [Bool.not_eq_true', Bool.not_eq_false', Bool.not_not, decide_eq_true_eq, decide_eq_false_iff_not, beq_iff_eq, bne_iff_ne, beq_eq_false_iff_ne, bne_eq_false_iff_eq, ne_eq, Bool.and_eq_true, Bool.and_eq_false_iff, Bool.or_eq_true, Bool.or_eq_false_iff, Int.toNat_natCast, Nat.zero_add, Int.ofNat_lt, Int.ofNat_le, List.length_cons, List.length_nil, List.drop_zero, List.take_length] at *)
  all_goals first
    | assumption
    | exact unit_good (by assumption)
    | (rw [so_f1 (by assumption)]; done)
    | (rw [so_f2 (by assumption)]; done)
    | (rw [so_f3 (by assumption)]; done)
    | skip
  all_goals rename_i q1 q2 q3 q4
  · rw [so_t q1 q2 q3, scOut_bad (q4.resolve_left Bool.noConfusion)]
  · rw [so_t q1 q2 q3, scOut_bad (q4.resolve_left Bool.noConfusion)]
  · rw [so_t q1 q2 q3]; exact scO_t q4.2
  · rw [so_t q1 q2 q3]; exact q4.2.symm
theorem ok_spec_rnOut : GSpec Try.prog s_spec_rnOut := by
  refine fn_known tab_ok fol ((Known.nil.cons ok_spec_raSub (by kernel_rfl)).cons ok_spec_raDiv (by kernel_rfl)) (by decide) Try.func56 ?_
  rintro ⟨⟨⟨(n : Int), (d : Int)⟩, ⟨(m : Int), (e : Int)⟩⟩, ⟨(n' : Int), (d' : Int)⟩, ⟨⟩⟩ - ⟨h1, h2, _⟩
  obtain ⟨u1, u2, u3⟩ := ivOk_iff.1 h1
  have g1 := ok_good (unit_good u1)
  have g2 := ok_good (unit_good u2)
  have g3 := ok_good h2
  dsimp only at *
  repeat' (first | with_reducible apply andAll_cons | with_reducible apply andAll_nil | (with_reducible apply Cf.mk; kernel_rfl) | apply And.intro | intro _ | exact True.intro | apply Lf.mk)
  all_goals (try simp only [Bool.not_eq_true', Bool.not_eq_false', Bool.not_not, decide_eq_true_eq, decide_eq_false_iff_not, beq_iff_eq, bne_iff_ne, beq_eq_false_iff_ne, bne_eq_false_iff_eq, ne_eq, Bool.and_eq_true, Bool.and_eq_false_iff, Bool.or_eq_true, Bool.or_eq_false_iff, Int.toNat_natCast, Nat.zero_add, Int.ofNat_lt, Int.ofNat_le, List.length_cons, List.length_nil, List.drop_zero, List.take_length] at *)
  all_goals first
    | assumption
    | exact lowRt_ok
    | exact congrArg Prod.fst (scOut_1 (i := ⟨⟨n, d⟩, ⟨m, e⟩⟩) (x := ⟨n', d'⟩) (by assumption)).symm
    | exact congrArg Prod.snd (scOut_1 (i := ⟨⟨n, d⟩, ⟨m, e⟩⟩) (x := ⟨n', d'⟩) (by assumption)).symm
    | exact congrArg Prod.fst (scOut_2 (i := ⟨⟨n, d⟩, ⟨m, e⟩⟩) (x := ⟨n', d'⟩) (by assumption)).symm
    | exact congrArg Prod.snd (scOut_2 (i := ⟨⟨n, d⟩, ⟨m, e⟩⟩) (x := ⟨n', d'⟩) (by assumption)).symm
    | exact congrArg Prod.fst (scOut_3 (i := ⟨⟨n, d⟩, ⟨m, e⟩⟩) (x := ⟨n', d'⟩) (by assumption) (by assumption)).symm
    | exact congrArg Prod.snd (scOut_3 (i := ⟨⟨n, d⟩, ⟨m, e⟩⟩) (x := ⟨n', d'⟩) (by assumption) (by assumption)).symm
    | skip
theorem ok_spec_ScaleOut : GSpec Try.prog s_spec_ScaleOut := by
  refine fn_known tab_ok fol ((((Known.nil.cons ok_spec_ivGood (by kernel_rfl)).cons ok_spec_raUnit (by kernel_rfl)).cons ok_spec_rnHas (by kernel_rfl)).cons ok_spec_rnOut (by kernel_rfl)) (by decide) Try.func17 ?_
  rintro ⟨⟨⟨(n : Int), (d : Int)⟩, ⟨(m : Int), (e : Int)⟩⟩, ⟨(n' : Int), (d' : Int)⟩, ⟨⟩⟩ - -
  repeat' (first | with_reducible apply andAll_cons | with_reducible apply andAll_nil | (with_reducible apply Cf.mk; kernel_rfl) | apply And.intro | intro _ | exact True.intro | apply Lf.mk)
  all_goals (try simp only [Bool.not_eq_true', Bool.not_eq_false', Bool.not_not, decide_eq_true_eq, decide_eq_false_iff_not, beq_iff_eq, bne_iff_ne, beq_eq_false_iff_ne, bne_eq_false_iff_eq, ne_eq, Bool.and_eq_true, Bool.and_eq_false_iff, Bool.or_eq_true, Bool.or_eq_false_iff, Int.toNat_natCast, Nat.zero_add, Int.ofNat_lt, Int.ofNat_le, List.length_cons, List.length_nil, List.drop_zero, List.take_length] at *)
  all_goals first
    | assumption
    | exact unit_good (by assumption)
    | (rw [so_f1 (by assumption)]; done)
    | (rw [so_f2 (by assumption)]; done)
    | (rw [so_f3 (by assumption)]; done)
    | (rw [so_t (by assumption) (by assumption) (by assumption)]; done)
    | skip
noncomputable def siRes (i : Iv) (x : Rt) : Rt × Bool := match ivOk i && unitRt x with
  | true => lineR ⟨i.a, i.a⟩ x i.b
  | false => (⟨0, 0⟩, false)
theorem si_f1 {i : Iv} {x : Rt} (h : ivOk i = false) : siRes i x = (⟨0, 0⟩, false) := by unfold siRes; rw [h]; rfl
theorem si_f2 {i : Iv} {x : Rt} (h : unitRt x = false) : siRes i x = (⟨0, 0⟩, false) := by unfold siRes; rw [h]; cases ivOk i <;> rfl
theorem si_t {i : Iv} {x : Rt} (h : ivOk i = true) (h2 : unitRt x = true) : siRes i x = lineR ⟨i.a, i.a⟩ x i.b := by unfold siRes; rw [h, h2]; rfl
theorem si_bad {a b x : Rt} (h : (((false || !(subRt b a).2) || !(mulRt (opR (subRt b a)) x).2) || !(addRt a (opR (mulRt (opR (subRt b a)) x))).2) = true) : lineR ⟨a, a⟩ x b = (⟨0, 0⟩, false) := by
  rw [mulRt_comm _ x] at h
  have := line_flag false ⟨a, a⟩ x b
  dsimp only at this
  rw [this] at h
  exact lineR_bad (by simpa using h)
theorem si_ok {a b x : Rt} (h : (((false || !(subRt b a).2) || !(mulRt (opR (subRt b a)) x).2) || !(addRt a (opR (mulRt (opR (subRt b a)) x))).2) = false) : (opR (addRt a (opR (mulRt (opR (subRt b a)) x))), true) = lineR ⟨a, a⟩ x b := by
  rw [mulRt_comm _ x] at h ⊢
  have := line_flag false ⟨a, a⟩ x b
  dsimp only at this
  rw [this] at h
  have h2 : (lineR ⟨a, a⟩ x b).2 = true := by simpa using h
  exact Prod.ext (lineO_t h2) h2.symm
theorem si_1 {a b x : Rt} (h : (subRt b a).2 = false) : (⟨0, 0⟩, false) = lineR ⟨a, a⟩ x b := (lineR_1 (p := ⟨a, a⟩) (s := x) (x := b) h).symm
theorem si_2 {a b x : Rt} (h1 : (subRt b a).2 = true) (h : (mulRt (subRt b a).1 x).2 = false) : (⟨0, 0⟩, false) = lineR ⟨a, a⟩ x b := by
  rw [mulRt_comm] at h; exact (lineR_2 (p := ⟨a, a⟩) (s := x) (x := b) h1 h).symm
theorem si_3 {a b x : Rt} (h1 : (subRt b a).2 = true) (h : (mulRt (subRt b a).1 x).2 = true) : addRt a (mulRt (subRt b a).1 x).1 = lineR ⟨a, a⟩ x b := by
  rw [mulRt_comm] at h ⊢; exact (lineR_3 (p := ⟨a, a⟩) (s := x) (x := b) h1 h).symm
noncomputable def s_impl_ScaleInto : Sig := ⟨15, [.val .iv, .val .rat], [.val .rat, .val .bool], fun ((i : Iv), (x : Rt), _) => ⟨[], ((siRes i x).1, (siRes i x).2, ()), ()⟩⟩
noncomputable def s_spec_ScaleInto : Sig := ⟨12, [.val .iv, .val .rat], [.val .rat, .val .bool], fun ((i : Iv), (x : Rt), _) => ⟨[], ((siRes i x).1, (siRes i x).2, ()), ()⟩⟩
theorem ok_impl_ScaleInto : GSpec Try.prog s_impl_ScaleInto := by
  refine fn_known tab_ok fol (((((Known.nil.cons ok_impl_isInterval (by kernel_rfl)).cons ok_impl_isUnit (by kernel_rfl)).cons ok_calc_sub (by kernel_rfl)).cons ok_calc_mul (by kernel_rfl)).cons ok_calc_add (by kernel_rfl)) (by decide) Try.func15 ?_
  rintro ⟨⟨⟨(n : Int), (d : Int)⟩, ⟨(m : Int), (e : Int)⟩⟩, ⟨(n' : Int), (d' : Int)⟩, ⟨⟩⟩ - -
  repeat' (first | with_reducible apply andAll_cons | with_reducible apply andAll_nil | (with_reducible apply Cf.mk; kernel_rfl) | apply And.intro | intro _ | exact True.intro | apply Lf.mk)
  all_goals (try simp only [Bool.not_eq_true', Bool.not_eq_false'] at *)
  all_goals first
    | assumption
    | exact unit_good (by assumption)
    | exact opR_good
    | exact unit_good (ivOk_iff.1 (by assumption)).1
    | exact unit_good (ivOk_iff.1 (by assumption)).2.1
    | (rw [si_f1 (by assumption)]; done)
    | (rw [si_f2 (by assumption)]; done)
    | skip
  all_goals rename_i q4 q1 q2
  · rw [si_t q1 q2, si_bad q4]
  · rw [si_t q1 q2, si_bad q4]
  · rw [si_t q1 q2]; exact congrArg Prod.fst (si_ok q4)
  · rw [si_t q1 q2]; exact congrArg Prod.snd (si_ok q4)
theorem ok_spec_ScaleInto : GSpec Try.prog s_spec_ScaleInto := by
  refine fn_known tab_ok fol (((((Known.nil.cons ok_spec_ivGood (by kernel_rfl)).cons ok_spec_raUnit (by kernel_rfl)).cons ok_spec_raSub (by kernel_rfl)).cons ok_spec_raMul (by kernel_rfl)).cons ok_spec_raAdd (by kernel_rfl)) (by decide) Try.func12 ?_
  rintro ⟨⟨⟨(n : Int), (d : Int)⟩, ⟨(m : Int), (e : Int)⟩⟩, ⟨(n' : Int), (d' : Int)⟩, ⟨⟩⟩ - -
  repeat' (first | with_reducible apply andAll_cons | with_reducible apply andAll_nil | (with_reducible apply Cf.mk; kernel_rfl) | apply And.intro | intro _ | exact True.intro | apply Lf.mk)
  all_goals (try simp only [Bool.not_eq_true', Bool.not_eq_false', Bool.not_not, decide_eq_true_eq, decide_eq_false_iff_not, beq_iff_eq, bne_iff_ne, beq_eq_false_iff_ne, bne_eq_false_iff_eq, ne_eq, Bool.and_eq_true, Bool.and_eq_false_iff, Bool.or_eq_true, Bool.or_eq_false_iff, Int.toNat_natCast, Nat.zero_add, Int.ofNat_lt, Int.ofNat_le, List.length_cons, List.length_nil, List.drop_zero, List.take_length] at *)
  all_goals first
    | assumption
    | exact unit_good (by assumption)
    | exact ok_good (unit_good (by assumption))
    | exact ok_good (unit_good (ivOk_iff.1 (by assumption)).1)
    | exact ok_good (unit_good (ivOk_iff.1 (by assumption)).2.1)
    | (rw [si_f1 (by assumption)]; done)
    | (rw [si_f2 (by assumption)]; done)
    | exact lowRt_ok
    | skip
  · rename_i q1 q2 q3; rw [si_t q1 q2]; exact congrArg Prod.fst (si_1 q3)
  · rename_i q1 q2 q3; rw [si_t q1 q2]; exact congrArg Prod.snd (si_1 q3)
  · rename_i q1 q2 q3 q4; rw [si_t q1 q2]; exact congrArg Prod.fst (si_2 q3 q4)
  · rename_i q1 q2 q3 q4; rw [si_t q1 q2]; exact congrArg Prod.snd (si_2 q3 q4)
  · rename_i q1 q2 q3 q4; rw [si_t q1 q2]; exact congrArg Prod.fst (si_3 q3 q4)
  · rename_i q1 q2 q3 q4; rw [si_t q1 q2]; exact congrArg Prod.snd (si_3 q3 q4)
end Go.Vx
