/- Fractions from 0 to 1: the program's functions and the reference's. -/
import Derived.Test.YtjiafbjoijffjaaGreatPk12
import Derived.Test.YtjiafbjoijffjaaGreatPk11
namespace Go.Vx
open Go Go.Proofs
set_option maxRecDepth 100000
set_option linter.unusedSimpArgs false
set_option linter.unusedVariables false

abbrev cT : Nat := 85
noncomputable def guardR (a b : Rt) (r : Rt × Bool) : Rt × Bool := match goodRt a && goodRt b with
  | true => r
  | false => (⟨0, 0⟩, false)
theorem guardR_t {a b : Rt} {r : Rt × Bool} (h1 : goodRt a = true) (h2 : goodRt b = true) : guardR a b r = r := by unfold guardR; rw [h1, h2]; rfl
noncomputable def s_impl_zero : Sig := ⟨141, [], [.val .rat], fun _ => ⟨[], ((⟨0, 1⟩ : Rt), ()), ()⟩⟩
theorem ok_impl_zero : GSpec Tryz.prog s_impl_zero := by
  refine fn_known tab_ok fol Known.nil (by decide) Tryz.func141 ?_
  rintro ⟨⟩ hl _
  repeat' (first | with_reducible apply andAll_cons | with_reducible apply andAll_nil | (with_reducible apply Cf.mk; kernel_rfl) | apply And.intro | intro _ | exact True.intro | apply Lf.mk)
  all_goals rfl
noncomputable def s_impl_oneRat : Sig := ⟨142, [], [.val .rat], fun _ => ⟨[], ((⟨1, 1⟩ : Rt), ()), ()⟩⟩
theorem ok_impl_oneRat : GSpec Tryz.prog s_impl_oneRat := by
  refine fn_known tab_ok fol Known.nil (by decide) Tryz.func142 ?_
  rintro ⟨⟩ hl _
  repeat' (first | with_reducible apply andAll_cons | with_reducible apply andAll_nil | (with_reducible apply Cf.mk; kernel_rfl) | apply And.intro | intro _ | exact True.intro | apply Lf.mk)
  all_goals rfl
noncomputable def s_spec_raInt : Sig := ⟨82, [.val NI], [.val .rat], fun ((n : Int), _) => ⟨[], ((⟨n, 1⟩ : Rt), ()), ()⟩⟩
theorem ok_spec_raInt : GSpec Tryz.prog s_spec_raInt := by
  refine fn_known tab_ok fol Known.nil (by decide) Tryz.func82 ?_
  rintro ⟨(n : Int), ⟨⟩⟩ hl _
  repeat' (first | with_reducible apply andAll_cons | with_reducible apply andAll_nil | (with_reducible apply Cf.mk; kernel_rfl) | apply And.intro | intro _ | exact True.intro | apply Lf.mk)
  all_goals rfl
noncomputable def s_impl_negated : Sig := ⟨233, [.val .rat], [.val .rat], fun ((b : Rt), _) => ⟨[okRt b = true], ((⟨0 - b.num, b.den⟩ : Rt), ()), ()⟩⟩
theorem ok_impl_negated : GSpec Tryz.prog s_impl_negated := by
  refine fn_known tab_ok fol Known.nil (by decide) Tryz.func233 ?_
  rintro ⟨⟨(n : Int), (d : Int)⟩, ⟨⟩⟩ hl ⟨h1, _⟩
  rw [okRt_iff] at h1
  dsimp only at h1
  repeat' (first | with_reducible apply andAll_cons | with_reducible apply andAll_nil | (with_reducible apply Cf.mk; kernel_rfl) | apply And.intro | intro _ | exact True.intro | apply Lf.mk)
  all_goals first | omega | rfl
noncomputable def s_impl_AddRats : Sig := ⟨189, [.val .rat, .val .rat], [.val .rat, .val .bool], fun ((a : Rt), (b : Rt), _) => ⟨[], ((guardR a b (addRt a b)).1, (guardR a b (addRt a b)).2, ()), ()⟩⟩
theorem ok_impl_AddRats : GSpec Tryz.prog s_impl_AddRats := by
  refine fn_known tab_ok fol ((Known.nil.cons ok_impl_areRats (by kernel_rfl)).cons ok_impl_lowest (by kernel_rfl)) (by decide) Tryz.func189 ?_
  rintro ⟨⟨(n : Int), (d : Int)⟩, ⟨(m : Int), (e : Int)⟩, ⟨⟩⟩ hl _
  cases h1 : goodRt ⟨n, d⟩ <;> cases h2 : goodRt ⟨m, e⟩
  rotate_right
  · have hb := okmul (ok_good h1) (ok_good h2)
    have hg1 := goodRt_iff.1 h1
    have hg2 := goodRt_iff.1 h2
    have hd := denmul h1 h2
    dsimp only at hb hg1 hg2 hd
    repeat' (first | with_reducible apply andAll_cons | with_reducible apply andAll_nil | (with_reducible apply Cf.mk; kernel_rfl) | apply And.intro | intro _ | exact True.intro | apply Lf.mk)
    all_goals (try simp only [Bool.not_eq_true', Bool.not_eq_false', Bool.not_not, decide_eq_true_eq, decide_eq_false_iff_not, beq_iff_eq, bne_iff_ne, beq_eq_false_iff_ne, bne_eq_false_iff_eq, ne_eq, Bool.and_eq_true, Bool.and_eq_false_iff, Bool.or_eq_true, Bool.or_eq_false_iff, Int.toNat_natCast, Nat.zero_add, Int.ofNat_lt, Int.ofNat_le, List.length_cons, List.length_nil, List.drop_zero, List.take_length] at *)
    all_goals first | omega | simp_all; done | skip
    all_goals first
      | (rw [guardR_t h1 h2]; rfl)
      | (have h0 : m = 0 := by assumption
         subst h0
         rw [guardR_t h1 h2]
         unfold divRt
         dsimp only
         rw [Int.mul_zero, lowRt_zero])
      | (exfalso
         have h0 : d * m = 0 := by assumption
         rcases Int.mul_eq_zero.1 h0 with h0 | h0 <;> omega)
  all_goals
    repeat' (first | with_reducible apply andAll_cons | with_reducible apply andAll_nil | (with_reducible apply Cf.mk; kernel_rfl) | apply And.intro | intro _ | exact True.intro | apply Lf.mk)
    all_goals first | assumption | omega | simp_all; done | skip
    all_goals (unfold guardR; rw [h1, h2])
    all_goals rfl
noncomputable def s_impl_MultiplyRats : Sig := ⟨190, [.val .rat, .val .rat], [.val .rat, .val .bool], fun ((a : Rt), (b : Rt), _) => ⟨[], ((guardR a b (mulRt a b)).1, (guardR a b (mulRt a b)).2, ()), ()⟩⟩
theorem ok_impl_MultiplyRats : GSpec Tryz.prog s_impl_MultiplyRats := by
  refine fn_known tab_ok fol ((Known.nil.cons ok_impl_areRats (by kernel_rfl)).cons ok_impl_lowest (by kernel_rfl)) (by decide) Tryz.func190 ?_
  rintro ⟨⟨(n : Int), (d : Int)⟩, ⟨(m : Int), (e : Int)⟩, ⟨⟩⟩ hl _
  cases h1 : goodRt ⟨n, d⟩ <;> cases h2 : goodRt ⟨m, e⟩
  rotate_right
  · have hb := okmul (ok_good h1) (ok_good h2)
    have hg1 := goodRt_iff.1 h1
    have hg2 := goodRt_iff.1 h2
    have hd := denmul h1 h2
    dsimp only at hb hg1 hg2 hd
    repeat' (first | with_reducible apply andAll_cons | with_reducible apply andAll_nil | (with_reducible apply Cf.mk; kernel_rfl) | apply And.intro | intro _ | exact True.intro | apply Lf.mk)
    all_goals (try simp only [Bool.not_eq_true', Bool.not_eq_false', Bool.not_not, decide_eq_true_eq, decide_eq_false_iff_not, beq_iff_eq, bne_iff_ne, beq_eq_false_iff_ne, bne_eq_false_iff_eq, ne_eq, Bool.and_eq_true, Bool.and_eq_false_iff, Bool.or_eq_true, Bool.or_eq_false_iff, Int.toNat_natCast, Nat.zero_add, Int.ofNat_lt, Int.ofNat_le, List.length_cons, List.length_nil, List.drop_zero, List.take_length] at *)
    all_goals first | omega | simp_all; done | skip
    all_goals first
      | (rw [guardR_t h1 h2]; rfl)
      | (have h0 : m = 0 := by assumption
         subst h0
         rw [guardR_t h1 h2]
         unfold divRt
         dsimp only
         rw [Int.mul_zero, lowRt_zero])
      | (exfalso
         have h0 : d * m = 0 := by assumption
         rcases Int.mul_eq_zero.1 h0 with h0 | h0 <;> omega)
  all_goals
    repeat' (first | with_reducible apply andAll_cons | with_reducible apply andAll_nil | (with_reducible apply Cf.mk; kernel_rfl) | apply And.intro | intro _ | exact True.intro | apply Lf.mk)
    all_goals first | assumption | omega | simp_all; done | skip
    all_goals (unfold guardR; rw [h1, h2])
    all_goals rfl
noncomputable def s_impl_DivideRats : Sig := ⟨225, [.val .rat, .val .rat], [.val .rat, .val .bool], fun ((a : Rt), (b : Rt), _) => ⟨[], ((guardR a b (divRt a b)).1, (guardR a b (divRt a b)).2, ()), ()⟩⟩
theorem ok_impl_DivideRats : GSpec Tryz.prog s_impl_DivideRats := by
  refine fn_known tab_ok fol ((Known.nil.cons ok_impl_areRats (by kernel_rfl)).cons ok_impl_lowest (by kernel_rfl)) (by decide) Tryz.func225 ?_
  rintro ⟨⟨(n : Int), (d : Int)⟩, ⟨(m : Int), (e : Int)⟩, ⟨⟩⟩ hl _
  cases h1 : goodRt ⟨n, d⟩ <;> cases h2 : goodRt ⟨m, e⟩
  rotate_right
  · have hb := okmul (ok_good h1) (ok_good h2)
    have hg1 := goodRt_iff.1 h1
    have hg2 := goodRt_iff.1 h2
    have hd := denmul h1 h2
    dsimp only at hb hg1 hg2 hd
    repeat' (first | with_reducible apply andAll_cons | with_reducible apply andAll_nil | (with_reducible apply Cf.mk; kernel_rfl) | apply And.intro | intro _ | exact True.intro | apply Lf.mk)
    all_goals (try simp only [Bool.not_eq_true', Bool.not_eq_false', Bool.not_not, decide_eq_true_eq, decide_eq_false_iff_not, beq_iff_eq, bne_iff_ne, beq_eq_false_iff_ne, bne_eq_false_iff_eq, ne_eq, Bool.and_eq_true, Bool.and_eq_false_iff, Bool.or_eq_true, Bool.or_eq_false_iff, Int.toNat_natCast, Nat.zero_add, Int.ofNat_lt, Int.ofNat_le, List.length_cons, List.length_nil, List.drop_zero, List.take_length] at *)
    all_goals first | omega | simp_all; done | skip
    all_goals first
      | (rw [guardR_t h1 h2]; rfl)
      | (have h0 : m = 0 := by assumption
         subst h0
         rw [guardR_t h1 h2]
         unfold divRt
         dsimp only
         rw [Int.mul_zero, lowRt_zero])
      | (exfalso
         have h0 : d * m = 0 := by assumption
         rcases Int.mul_eq_zero.1 h0 with h0 | h0 <;> omega)
  all_goals
    repeat' (first | with_reducible apply andAll_cons | with_reducible apply andAll_nil | (with_reducible apply Cf.mk; kernel_rfl) | apply And.intro | intro _ | exact True.intro | apply Lf.mk)
    all_goals first | assumption | omega | simp_all; done | skip
    all_goals (unfold guardR; rw [h1, h2])
    all_goals rfl
noncomputable def s_impl_SubtractRats : Sig := ⟨191, [.val .rat, .val .rat], [.val .rat, .val .bool], fun ((a : Rt), (b : Rt), _) => ⟨[okRt b = true], ((guardR a b (subRt a b)).1, (guardR a b (subRt a b)).2, ()), ()⟩⟩
theorem ok_impl_SubtractRats : GSpec Tryz.prog s_impl_SubtractRats := by
  refine fn_known tab_ok fol ((Known.nil.cons ok_impl_negated (by kernel_rfl)).cons ok_impl_AddRats (by kernel_rfl)) (by decide) Tryz.func191 ?_
  rintro ⟨⟨(n : Int), (d : Int)⟩, ⟨(m : Int), (e : Int)⟩, ⟨⟩⟩ hl ⟨h1, _⟩
  have e1 : guardR ⟨n, d⟩ ⟨0 - m, e⟩ (addRt ⟨n, d⟩ ⟨0 - m, e⟩) = guardR ⟨n, d⟩ ⟨m, e⟩ (subRt ⟨n, d⟩ ⟨m, e⟩) := by
    have := add_neg (a := ⟨n, d⟩) (b := ⟨m, e⟩)
    have h2 := good_neg h1
    dsimp only at this h2
    unfold guardR
    rw [this, h2]
  repeat' (first | with_reducible apply andAll_cons | with_reducible apply andAll_nil | (with_reducible apply Cf.mk; kernel_rfl) | apply And.intro | intro _ | exact True.intro | apply Lf.mk)
  · exact h1
  all_goals first | rfl | (rw [← e1]; done) | (rw [← e1]; rfl)
noncomputable def s_spec_raAdd : Sig := ⟨112, [.val .rat, .val .rat], [.val .rat, .val .bool], fun ((a : Rt), (b : Rt), _) => ⟨[okRt a = true, okRt b = true], ((addRt a b).1, (addRt a b).2, ()), ()⟩⟩
theorem ok_spec_raAdd : GSpec Tryz.prog s_spec_raAdd := by
  refine fn_known tab_ok fol (Known.nil.cons ok_spec_raMake (by kernel_rfl)) (by decide) Tryz.func112 ?_
  rintro ⟨⟨(n : Int), (d : Int)⟩, ⟨(m : Int), (e : Int)⟩, ⟨⟩⟩ hl ⟨h1, h2, _⟩
  have hb := okmul h1 h2
  dsimp only at hb
  repeat' (first | with_reducible apply andAll_cons | with_reducible apply andAll_nil | (with_reducible apply Cf.mk; kernel_rfl) | apply And.intro | intro _ | exact True.intro | apply Lf.mk)
  all_goals (try simp only [Bool.not_eq_true', Bool.not_eq_false', Bool.not_not, decide_eq_true_eq, decide_eq_false_iff_not, beq_iff_eq, bne_iff_ne, beq_eq_false_iff_ne, bne_eq_false_iff_eq, ne_eq, Bool.and_eq_true, Bool.and_eq_false_iff, Bool.or_eq_true, Bool.or_eq_false_iff, Int.toNat_natCast, Nat.zero_add, Int.ofNat_lt, Int.ofNat_le, List.length_cons, List.length_nil, List.drop_zero, List.take_length] at *)
  all_goals first | omega | rfl | skip
  all_goals
    have h0 : m = 0 := by assumption
    subst h0
    unfold divRt
    dsimp only
    rw [Int.mul_zero, lowRt_zero]
noncomputable def s_spec_raSub : Sig := ⟨110, [.val .rat, .val .rat], [.val .rat, .val .bool], fun ((a : Rt), (b : Rt), _) => ⟨[okRt a = true, okRt b = true], ((subRt a b).1, (subRt a b).2, ()), ()⟩⟩
theorem ok_spec_raSub : GSpec Tryz.prog s_spec_raSub := by
  refine fn_known tab_ok fol (Known.nil.cons ok_spec_raMake (by kernel_rfl)) (by decide) Tryz.func110 ?_
  rintro ⟨⟨(n : Int), (d : Int)⟩, ⟨(m : Int), (e : Int)⟩, ⟨⟩⟩ hl ⟨h1, h2, _⟩
  have hb := okmul h1 h2
  dsimp only at hb
  repeat' (first | with_reducible apply andAll_cons | with_reducible apply andAll_nil | (with_reducible apply Cf.mk; kernel_rfl) | apply And.intro | intro _ | exact True.intro | apply Lf.mk)
  all_goals (try simp only [Bool.not_eq_true', Bool.not_eq_false', Bool.not_not, decide_eq_true_eq, decide_eq_false_iff_not, beq_iff_eq, bne_iff_ne, beq_eq_false_iff_ne, bne_eq_false_iff_eq, ne_eq, Bool.and_eq_true, Bool.and_eq_false_iff, Bool.or_eq_true, Bool.or_eq_false_iff, Int.toNat_natCast, Nat.zero_add, Int.ofNat_lt, Int.ofNat_le, List.length_cons, List.length_nil, List.drop_zero, List.take_length] at *)
  all_goals first | omega | rfl | skip
  all_goals
    have h0 : m = 0 := by assumption
    subst h0
    unfold divRt
    dsimp only
    rw [Int.mul_zero, lowRt_zero]
noncomputable def s_spec_raMul : Sig := ⟨111, [.val .rat, .val .rat], [.val .rat, .val .bool], fun ((a : Rt), (b : Rt), _) => ⟨[okRt a = true, okRt b = true], ((mulRt a b).1, (mulRt a b).2, ()), ()⟩⟩
theorem ok_spec_raMul : GSpec Tryz.prog s_spec_raMul := by
  refine fn_known tab_ok fol (Known.nil.cons ok_spec_raMake (by kernel_rfl)) (by decide) Tryz.func111 ?_
  rintro ⟨⟨(n : Int), (d : Int)⟩, ⟨(m : Int), (e : Int)⟩, ⟨⟩⟩ hl ⟨h1, h2, _⟩
  have hb := okmul h1 h2
  dsimp only at hb
  repeat' (first | with_reducible apply andAll_cons | with_reducible apply andAll_nil | (with_reducible apply Cf.mk; kernel_rfl) | apply And.intro | intro _ | exact True.intro | apply Lf.mk)
  all_goals (try simp only [Bool.not_eq_true', Bool.not_eq_false', Bool.not_not, decide_eq_true_eq, decide_eq_false_iff_not, beq_iff_eq, bne_iff_ne, beq_eq_false_iff_ne, bne_eq_false_iff_eq, ne_eq, Bool.and_eq_true, Bool.and_eq_false_iff, Bool.or_eq_true, Bool.or_eq_false_iff, Int.toNat_natCast, Nat.zero_add, Int.ofNat_lt, Int.ofNat_le, List.length_cons, List.length_nil, List.drop_zero, List.take_length] at *)
  all_goals first | omega | rfl | skip
  all_goals
    have h0 : m = 0 := by assumption
    subst h0
    unfold divRt
    dsimp only
    rw [Int.mul_zero, lowRt_zero]
noncomputable def s_spec_raDiv : Sig := ⟨169, [.val .rat, .val .rat], [.val .rat, .val .bool], fun ((a : Rt), (b : Rt), _) => ⟨[okRt a = true, okRt b = true], ((divRt a b).1, (divRt a b).2, ()), ()⟩⟩
theorem ok_spec_raDiv : GSpec Tryz.prog s_spec_raDiv := by
  refine fn_known tab_ok fol (Known.nil.cons ok_spec_raMake (by kernel_rfl)) (by decide) Tryz.func169 ?_
  rintro ⟨⟨(n : Int), (d : Int)⟩, ⟨(m : Int), (e : Int)⟩, ⟨⟩⟩ hl ⟨h1, h2, _⟩
  have hb := okmul h1 h2
  dsimp only at hb
  repeat' (first | with_reducible apply andAll_cons | with_reducible apply andAll_nil | (with_reducible apply Cf.mk; kernel_rfl) | apply And.intro | intro _ | exact True.intro | apply Lf.mk)
  all_goals (try simp only [Bool.not_eq_true', Bool.not_eq_false', Bool.not_not, decide_eq_true_eq, decide_eq_false_iff_not, beq_iff_eq, bne_iff_ne, beq_eq_false_iff_ne, bne_eq_false_iff_eq, ne_eq, Bool.and_eq_true, Bool.and_eq_false_iff, Bool.or_eq_true, Bool.or_eq_false_iff, Int.toNat_natCast, Nat.zero_add, Int.ofNat_lt, Int.ofNat_le, List.length_cons, List.length_nil, List.drop_zero, List.take_length] at *)
  all_goals first | omega | rfl | skip
  all_goals
    have h0 : m = 0 := by assumption
    subst h0
    unfold divRt
    dsimp only
    rw [Int.mul_zero, lowRt_zero]
noncomputable def s_calc_keep : Sig := ⟨188, [.cell cT .bool, .val .rat, .val .bool], [.val .rat], fun ((c : Bool), (a : Rt), (ok : Bool), _) => ⟨[], (opR (a, ok), ()), (c || !ok, ())⟩⟩
theorem ok_calc_keep : GSpec Tryz.prog s_calc_keep := by
  refine fn_known tab_ok fol (Known.nil.cons ok_impl_zero (by kernel_rfl)) (by decide) Tryz.func188 ?_
  rintro ⟨(c : Bool), ⟨(n : Int), (d : Int)⟩, (ok : Bool), ⟨⟩⟩ hl _
  cases ok
  · repeat' (first | with_reducible apply andAll_cons | with_reducible apply andAll_nil | (with_reducible apply Cf.mk; kernel_rfl) | apply And.intro | intro _ | exact True.intro | apply Lf.mk)
    all_goals first | (unfold opR; rfl) | rfl | simp_all; done
  · repeat' (first | with_reducible apply andAll_cons | with_reducible apply andAll_nil | (with_reducible apply Cf.mk; kernel_rfl) | apply And.intro | intro _ | exact True.intro | apply Lf.mk)
    all_goals first | (unfold opR; rfl) | rfl | simp_all; done
noncomputable def s_calc_add : Sig := ⟨118, [.cell cT .bool, .val .rat, .val .rat], [.val .rat], fun ((c : Bool), (a : Rt), (b : Rt), _) => ⟨[goodRt a = true, goodRt b = true], (opR (addRt a b), ()), (c || !(addRt a b).2, ())⟩⟩
theorem ok_calc_add : GSpec Tryz.prog s_calc_add := by
  refine fn_known tab_ok fol ((Known.nil.cons ok_calc_keep (by kernel_rfl)).cons ok_impl_AddRats (by kernel_rfl)) (by decide) Tryz.func118 ?_
  rintro ⟨(c : Bool), ⟨(n : Int), (d : Int)⟩, ⟨(m : Int), (e : Int)⟩, ⟨⟩⟩ hl ⟨h1, h2, _⟩
  have e1 : guardR ⟨n, d⟩ ⟨m, e⟩ (addRt ⟨n, d⟩ ⟨m, e⟩) = addRt ⟨n, d⟩ ⟨m, e⟩ := guardR_t h1 h2
  have e2 := ok_good h2
  repeat' (first | with_reducible apply andAll_cons | with_reducible apply andAll_nil | (with_reducible apply Cf.mk; kernel_rfl) | apply And.intro | intro _ | exact True.intro | apply Lf.mk)
  all_goals first | exact e2 | rfl | (rw [← e1]; rfl) | (simp only [e1]; done) | (simp only [e1]; rfl)
noncomputable def s_calc_sub : Sig := ⟨120, [.cell cT .bool, .val .rat, .val .rat], [.val .rat], fun ((c : Bool), (a : Rt), (b : Rt), _) => ⟨[goodRt a = true, goodRt b = true], (opR (subRt a b), ()), (c || !(subRt a b).2, ())⟩⟩
theorem ok_calc_sub : GSpec Tryz.prog s_calc_sub := by
  refine fn_known tab_ok fol ((Known.nil.cons ok_calc_keep (by kernel_rfl)).cons ok_impl_SubtractRats (by kernel_rfl)) (by decide) Tryz.func120 ?_
  rintro ⟨(c : Bool), ⟨(n : Int), (d : Int)⟩, ⟨(m : Int), (e : Int)⟩, ⟨⟩⟩ hl ⟨h1, h2, _⟩
  have e1 : guardR ⟨n, d⟩ ⟨m, e⟩ (subRt ⟨n, d⟩ ⟨m, e⟩) = subRt ⟨n, d⟩ ⟨m, e⟩ := guardR_t h1 h2
  have e2 := ok_good h2
  repeat' (first | with_reducible apply andAll_cons | with_reducible apply andAll_nil | (with_reducible apply Cf.mk; kernel_rfl) | apply And.intro | intro _ | exact True.intro | apply Lf.mk)
  all_goals first | exact e2 | rfl | (rw [← e1]; rfl) | (simp only [e1]; done) | (simp only [e1]; rfl)
noncomputable def s_calc_mul : Sig := ⟨119, [.cell cT .bool, .val .rat, .val .rat], [.val .rat], fun ((c : Bool), (a : Rt), (b : Rt), _) => ⟨[goodRt a = true, goodRt b = true], (opR (mulRt a b), ()), (c || !(mulRt a b).2, ())⟩⟩
theorem ok_calc_mul : GSpec Tryz.prog s_calc_mul := by
  refine fn_known tab_ok fol ((Known.nil.cons ok_calc_keep (by kernel_rfl)).cons ok_impl_MultiplyRats (by kernel_rfl)) (by decide) Tryz.func119 ?_
  rintro ⟨(c : Bool), ⟨(n : Int), (d : Int)⟩, ⟨(m : Int), (e : Int)⟩, ⟨⟩⟩ hl ⟨h1, h2, _⟩
  have e1 : guardR ⟨n, d⟩ ⟨m, e⟩ (mulRt ⟨n, d⟩ ⟨m, e⟩) = mulRt ⟨n, d⟩ ⟨m, e⟩ := guardR_t h1 h2
  have e2 := ok_good h2
  repeat' (first | with_reducible apply andAll_cons | with_reducible apply andAll_nil | (with_reducible apply Cf.mk; kernel_rfl) | apply And.intro | intro _ | exact True.intro | apply Lf.mk)
  all_goals first | exact e2 | rfl | (rw [← e1]; rfl) | (simp only [e1]; done) | (simp only [e1]; rfl)
noncomputable def s_calc_div : Sig := ⟨176, [.cell cT .bool, .val .rat, .val .rat], [.val .rat], fun ((c : Bool), (a : Rt), (b : Rt), _) => ⟨[goodRt a = true, goodRt b = true], (opR (divRt a b), ()), (c || !(divRt a b).2, ())⟩⟩
theorem ok_calc_div : GSpec Tryz.prog s_calc_div := by
  refine fn_known tab_ok fol ((Known.nil.cons ok_calc_keep (by kernel_rfl)).cons ok_impl_DivideRats (by kernel_rfl)) (by decide) Tryz.func176 ?_
  rintro ⟨(c : Bool), ⟨(n : Int), (d : Int)⟩, ⟨(m : Int), (e : Int)⟩, ⟨⟩⟩ hl ⟨h1, h2, _⟩
  have e1 : guardR ⟨n, d⟩ ⟨m, e⟩ (divRt ⟨n, d⟩ ⟨m, e⟩) = divRt ⟨n, d⟩ ⟨m, e⟩ := guardR_t h1 h2
  have e2 := ok_good h2
  repeat' (first | with_reducible apply andAll_cons | with_reducible apply andAll_nil | (with_reducible apply Cf.mk; kernel_rfl) | apply And.intro | intro _ | exact True.intro | apply Lf.mk)
  all_goals first | exact e2 | rfl | (rw [← e1]; rfl) | (simp only [e1]; done) | (simp only [e1]; rfl)
end Go.Vx
namespace Go.Vx
open Go Go.Proofs
set_option maxRecDepth 100000
set_option linter.unusedSimpArgs false
set_option linter.unusedVariables false

noncomputable def s_cur_unitRat : Sig := ⟨187, [.cell 93 .cur], [.val .rat], fun ((c : Cur), _) => ⟨[AtOk 6 c], (uniV c, ()), (uniS c, ())⟩⟩
theorem ok_cur_unitRat : GSpec Tryz.prog s_cur_unitRat := by
  refine fn_known tab_ok fol (((Known.nil.cons ok_cur_pick (by kernel_rfl)).cons ok_cur_among (by kernel_rfl)).cons ok_spec_raMake (by kernel_rfl)) (by decide) Tryz.func187 ?_
  rintro ⟨(c : Cur), ⟨⟩⟩ hl ⟨h1, _⟩
  have v1 := pickV_lt c (n := 60) (by omega)
  have v2 := uniD_rng c
  have v3 := pickV_lt (uniS1 c) (n := uniD c + 1) (by omega)
  have e1 : uniD c = amongV (pickS c 60) [1, 2, 3, 4, 5, 7, 8, 12, 16, 1 + pickV c 60] := by unfold uniD; rfl
  have e2 : uniV c = (lowRt (pickV (uniS1 c) (uniD c + 1)) (uniD c)).1 := by unfold uniV; rfl
  have e3 : uniS1 c = pickS (pickS c 60) 10 := rfl
  repeat' (first | with_reducible apply andAll_cons | with_reducible apply andAll_nil | (with_reducible apply Cf.mk; kernel_rfl) | apply And.intro | intro _ | exact True.intro | apply Lf.mk)
  all_goals (try simp only [cur_eta, List.length_cons, List.length_nil, Nat.zero_add, Nat.reduceAdd, Int.cast_ofNat_Int])
  all_goals (try simp only [← e1, ← e3])
  all_goals first
    | (simp only [anyS_r, anyS1_r, ratS_r, ratS1_r, uniS_r, uniS1_r, ordS_r, pickS_r, nextS_r]; exact ⟨100000, rfl⟩) | exact ⟨100000, rfl⟩ | exact h1.le (by decide) | exact (pick_at h1).le (by decide) | exact pick_at (pick_at h1)
    | (show 1 ≤ List.length _; simp; done) | decide | omega | exact e2.symm | exact (uniS_eq c).symm | (show inI64 _; unfold inI64; omega) | trace_state
noncomputable def s_cur_gridRat : Sig := ⟨137, [.cell 93 .cur, .val NI], [.val .rat], fun ((c : Cur), (n : Int), _) => ⟨[AtOk 2 c, 1 ≤ n, n ≤ 100000], (griV c n, ()), (pickS c (n + 1), ())⟩⟩
theorem ok_cur_gridRat : GSpec Tryz.prog s_cur_gridRat := by
  refine fn_known tab_ok fol ((Known.nil.cons ok_cur_pick (by kernel_rfl)).cons ok_spec_raMake (by kernel_rfl)) (by decide) Tryz.func137 ?_
  rintro ⟨(c : Cur), (n : Int), ⟨⟩⟩ hl ⟨h1, h2, h3, _⟩
  have v3 := pickV_lt c (n := n + 1) (by omega)
  have e2 : griV c n = (lowRt (pickV c (n + 1)) n).1 := by unfold griV; rfl
  repeat' (first | with_reducible apply andAll_cons | with_reducible apply andAll_nil | (with_reducible apply Cf.mk; kernel_rfl) | apply And.intro | intro _ | exact True.intro | apply Lf.mk)
  all_goals (try simp only [cur_eta, List.length_cons, List.length_nil, Nat.zero_add, Nat.reduceAdd, Int.cast_ofNat_Int])
  all_goals first
    | (simp only [anyS_r, anyS1_r, ratS_r, ratS1_r, uniS_r, uniS1_r, ordS_r, pickS_r, nextS_r]; exact ⟨100000, rfl⟩) | exact ⟨100000, rfl⟩ | exact h1.le (by decide) | exact (pick_at h1).le (by decide)
    | omega | exact e2.symm | rfl | (show inI64 _; unfold inI64; omega) | trace_state
noncomputable def s_cur_rat : Sig := ⟨203, [.cell 93 .cur], [.val .rat], fun ((c : Cur), _) => ⟨[AtOk 12 c], (ratW c, ()), (ratS c, ())⟩⟩
theorem ok_cur_rat : GSpec Tryz.prog s_cur_rat := by
  refine fn_known tab_ok fol ((((Known.nil.cons ok_cur_pick (by kernel_rfl)).cons ok_cur_among (by kernel_rfl)).cons ok_spec_raMake (by kernel_rfl)).cons ok_spec_raInt (by kernel_rfl)) (by decide) Tryz.func203 ?_
  rintro ⟨(c : Cur), ⟨⟩⟩ hl ⟨h1, _⟩
  have v1 := pickV_lt c (n := 41) (by omega)
  have v2 := pickV_lt (pickS c 41) (n := 2001) (by omega)
  have v3 := pickV_lt (ratS1 c) (n := 20) (by omega)
  have v4 := pickV_lt (pickS (ratS1 c) 20) (n := 1000) (by omega)
  have n1 := ratN_rng c
  have n2 := ratE_rng c
  have e1 : ratN c = amongV (pickS (pickS c 41) 2001) [0, 1, 2, 3, -1, -5, pickV c 41 - 20, pickV (pickS c 41) 2001 - 1000, 1000000000, -1000000000] := by unfold ratN; rfl
  have e3 : ratS1 c = pickS (pickS (pickS c 41) 2001) 10 := rfl
  have e2 : ratE c = amongV (pickS (pickS (ratS1 c) 20) 1000) [1, 2, 3, 4, 8, 7, 1 + pickV (ratS1 c) 20, 1 + pickV (pickS (ratS1 c) 20) 1000, 1000000000, 999999999] := by unfold ratE; rfl
  repeat' (first | with_reducible apply andAll_cons | with_reducible apply andAll_nil | (with_reducible apply Cf.mk; kernel_rfl) | apply And.intro | intro _ | exact True.intro | apply Lf.mk)
  all_goals (try simp only [cur_eta, List.length_cons, List.length_nil, Nat.zero_add, Nat.reduceAdd, Int.cast_ofNat_Int])
  all_goals (try simp only [← e1, ← e3])
  all_goals (try simp only [← e2])
  all_goals first
    | (simp only [anyS_r, anyS1_r, ratS_r, ratS1_r, uniS_r, uniS1_r, ordS_r, pickS_r, nextS_r]; exact ⟨100000, rfl⟩) | exact ⟨100000, rfl⟩ | exact h1.le (by decide) | exact (pick_at h1).le (by decide) | exact (pick_at (pick_at h1)).le (by decide) | exact (pick_at (pick_at (pick_at h1))).le (by decide)
    | exact (pick_at (pick_at (pick_at (pick_at h1)))).le (by decide) | exact (pick_at (pick_at (pick_at (pick_at (pick_at h1))))).le (by decide)
    | (show 1 ≤ List.length _; simp; done) | decide | omega | exact (ratS_eq c).symm | (show inI64 _; unfold inI64; omega)
    | (rename_i hb
       simp only [cur_eta, List.length_cons, List.length_nil, Nat.zero_add, Nat.reduceAdd, Int.cast_ofNat_Int, ← e1, ← e3] at hb
       simp only [← e2] at hb
       first | (rw [ratW_t (by simpa using hb)]; done) | (rw [ratW_f (by simpa using hb)]; done))
    | trace_state
noncomputable def s_cur_anyRat : Sig := ⟨139, [.cell 93 .cur], [.val .rat], fun ((c : Cur), _) => ⟨[AtOk 18 c], (anyV c, ()), (anyS c, ())⟩⟩
theorem ok_cur_anyRat : GSpec Tryz.prog s_cur_anyRat := by
  refine fn_known tab_ok fol (((Known.nil.cons ok_cur_rat (by kernel_rfl)).cons ok_cur_pick (by kernel_rfl)).cons ok_cur_among (by kernel_rfl)) (by decide) Tryz.func139 ?_
  rintro ⟨(c : Cur), ⟨⟩⟩ hl ⟨h1, _⟩
  have e1 : anyS1 c = pickS (ratS c) 40 := rfl
  have h2 : AtOk 4 (anyS1 c) := pick_at (rat_at h1)
  repeat' (first | with_reducible apply andAll_cons | with_reducible apply andAll_nil | (with_reducible apply Cf.mk; kernel_rfl) | apply And.intro | intro _ | exact True.intro | apply Lf.mk)
  all_goals (try simp only [cur_eta, List.length_cons, List.length_nil, Nat.zero_add, Nat.reduceAdd, Int.cast_ofNat_Int])
  all_goals (try simp only [← e1])
  all_goals (try simp only [Bool.not_eq_true', Bool.not_eq_false', Bool.not_not, decide_eq_true_eq, decide_eq_false_iff_not, beq_iff_eq, bne_iff_ne, beq_eq_false_iff_ne, bne_eq_false_iff_eq, ne_eq, Bool.and_eq_true, Bool.and_eq_false_iff, Bool.or_eq_true, Bool.or_eq_false_iff, Int.toNat_natCast, Nat.zero_add, Int.ofNat_lt, Int.ofNat_le, List.length_cons, List.length_nil, List.drop_zero, List.take_length] at *)
  all_goals first
    | (simp only [anyS_r, anyS1_r, ratS_r, ratS1_r, uniS_r, uniS1_r, ordS_r, pickS_r, nextS_r]; exact ⟨100000, rfl⟩) | exact ⟨100000, rfl⟩ | exact h1.le (by decide) | exact (rat_at h1).le (by decide) | exact h2.le (by decide) | exact pick_at h2
    | (show 1 ≤ List.length _; simp; done) | decide
    | (rw [(any_0 (by assumption)).1]; done) | exact (any_0 (by assumption)).2.symm
    | (rw [(any_1 (by assumption)).1]; done) | exact (any_1 (by assumption)).2.symm
    | (rw [(any_2 (by assumption)).1]; done) | exact (any_2 (by assumption)).2.symm
    | (rw [(any_3 (by assumption) (by assumption) (by assumption)).1]; done) | exact (any_3 (by assumption) (by assumption) (by assumption)).2.symm
    | omega | trace_state
end Go.Vx
namespace Go.Vx
open Go Go.Proofs
set_option maxRecDepth 100000
set_option linter.unusedSimpArgs false
set_option linter.unusedVariables false

/-- the cursor has gone on, by at most k -/
structure Adv (k : Nat) (c d : Cur) : Prop where
  r : d.r = c.r
  lo : c.at_ ≤ d.at_
  hi : d.at_ ≤ c.at_ + (k : Int)
theorem Adv.refl (k : Nat) (c : Cur) : Adv k c c := ⟨rfl, Int.le_refl _, by omega⟩
theorem Adv.at_ {k m : Nat} {c d : Cur} (h : Adv k c d) (ha : AtOk (m + k) c) : AtOk m d := ⟨by have := ha.lo; have := h.lo; omega, by have := ha.hi; have := h.hi; omega⟩
theorem Adv.trans {i j k : Nat} {c d e : Cur} (h : Adv i c d) (h2 : Adv j d e) (hk : i + j ≤ k) : Adv k c e := ⟨h2.r.trans h.r, Int.le_trans h.lo h2.lo, by have := h.hi; have := h2.hi; omega⟩
theorem Adv.le {i k : Nat} {c d : Cur} (h : Adv i c d) (hk : i ≤ k) : Adv k c d := ⟨h.r, h.lo, by have := h.hi; omega⟩
/-- of the next draw -/
theorem Adv.of {i k j : Nat} {c d : Cur} {S : Cur → Cur} (h : Adv i c d) (hr : ∀ c, Adv j c (S c)) (hk : i + j ≤ k) : Adv k c (S d) := h.trans (hr d) hk
theorem next_adv (c : Cur) : Adv 1 c (nextS c) := ⟨nextS_r c, by rw [nextS_eq]; show c.at_ ≤ c.at_ + 1; omega, by rw [nextS_eq]; exact Int.le_refl _⟩
theorem pick_adv (c : Cur) (n : Int) : Adv 2 c (pickS c n) := by
  unfold pickS
  split
  · exact Adv.refl _ _
  · split
    · exact (next_adv _).trans (next_adv _) (by decide)
    · exact (next_adv _).le (by decide)
theorem ord_adv (c : Cur) : Adv 4 c (ordS c) := by rw [ordS_eq]; exact (pick_adv _ _).trans (pick_adv _ _) (by decide)
theorem uni_adv (c : Cur) : Adv 6 c (uniS c) := by rw [uniS_eq]; unfold uniS1; exact ((pick_adv _ _).trans (pick_adv _ _) (k := 4) (by decide)).trans (pick_adv _ _) (by decide)
theorem rat_adv (c : Cur) : Adv 12 c (ratS c) := by
  rw [ratS_eq]; unfold ratS1
  exact ((((((pick_adv _ _).trans (pick_adv _ _) (k := 4) (by decide)).trans (pick_adv _ _) (k := 6) (by decide)).trans (pick_adv _ _) (k := 8) (by decide)).trans (pick_adv _ _) (k := 10) (by decide)).trans (pick_adv _ _) (by decide))
theorem any_adv (c : Cur) : Adv 18 c (anyS c) := by
  have h4 : Adv 14 c (pickS (ratS c) 40) := (rat_adv c).trans (pick_adv _ _) (by decide)
  unfold anyS anyS1
  split
  · exact h4.trans (pick_adv _ _) (by decide)
  · split
    · exact h4.trans (pick_adv _ _) (by decide)
    · split
      · exact (h4.trans (pick_adv _ _) (k := 16) (by decide)).trans (pick_adv _ _) (by decide)
      · exact h4.le (by decide)

theorem adv_next {k : Nat} {c d : Cur} (h : Adv k c d) : Adv (k + 1) c (nextS d) := h.trans (next_adv d) (Nat.le_refl _)
theorem adv_pick {k : Nat} {c d : Cur} {n : Int} (h : Adv k c d) : Adv (k + 2) c (pickS d n) := h.trans (pick_adv d n) (Nat.le_refl _)
theorem adv_ord {k : Nat} {c d : Cur} (h : Adv k c d) : Adv (k + 4) c (ordS d) := h.trans (ord_adv d) (Nat.le_refl _)
theorem adv_uni {k : Nat} {c d : Cur} (h : Adv k c d) : Adv (k + 6) c (uniS d) := h.trans (uni_adv d) (Nat.le_refl _)
theorem adv_rat {k : Nat} {c d : Cur} (h : Adv k c d) : Adv (k + 12) c (ratS d) := h.trans (rat_adv d) (Nat.le_refl _)
theorem adv_any {k : Nat} {c d : Cur} (h : Adv k c d) : Adv (k + 18) c (anyS d) := h.trans (any_adv d) (Nat.le_refl _)
theorem rawIn_adv {C : List (Nat × CloE)} {k : Nat} {c d : Cur} (h : Adv k c d) (h2 : RawIn C c.r) : RawIn C d.r := by rw [h.r]; exact h2
/-- a cursor as the evaluator holds it -/
abbrev cuB (c : Cur) : Ob := .box 93 [.raw c.r, .num .i64 c.at_, .num .u64 c.sd]
theorem start_go {α : Type} {Φ F : α → Prop} (x : α) (hf : F x) (h : Φ x) : ∃ x, Φ x ∧ F x := ⟨x, h, hf⟩
theorem round_go {α : Type} {Φ F : α → Prop} {μ : α → Nat} {m : Nat} (x : α) (hf : F x) (hm : μ x < m) (h : Φ x) : ∃ x, Φ x ∧ μ x < m ∧ F x := ⟨x, h, hm, hf⟩
theorem among_rng (c : Cur) {l : List Int} (lo hi : Int) (h : (l.all fun x => decide (lo ≤ x) && decide (x ≤ hi)) = true) (hl : 1 ≤ l.length) : lo ≤ amongV c l ∧ amongV c l ≤ hi :=
  among_all (p := fun x => lo ≤ x ∧ x ≤ hi) (fun x hx => by have := List.all_eq_true.1 h x hx; simpa using this) hl
theorem unit_good_ {x : Rt} (h : unitRt x = true) : goodRt x = true := (unitRt_iff.1 h).1
theorem pk1 {c : Cur} {n a b : Int} (hn : 1 ≤ n) (h : a < b) : a < b + pickV c n := by have := pickV_lt c hn; omega
theorem pk2 {c : Cur} {n a b : Int} (hn : 1 ≤ n) (h : b + n ≤ a) : b + pickV c n ≤ a := by have := pickV_lt c hn; omega
theorem pk3 {c : Cur} {n a b : Int} (hn : 1 ≤ n) (h : a ≤ b) : a ≤ b + pickV c n := by have := pickV_lt c hn; omega
theorem pk4 {c : Cur} {n a : Int} (hn : 1 ≤ n) (h : a < 0) : a < pickV c n := by have := pickV_lt c hn; omega
theorem pk5 {c : Cur} {n a : Int} (hn : 1 ≤ n) (h : n ≤ a) : pickV c n ≤ a := by have := pickV_lt c hn; omega
theorem cz_at (r : Raw) : AtOk 100000 ⟨r, 0, 0⟩ := ⟨by show (0 : Int) ≤ 0; omega, by show (0 : Int) + _ ≤ _; omega⟩
theorem rt_eta_ (x : Rt) : (⟨x.num, x.den⟩ : Rt) = x := rfl
theorem some_end {E : Env} {rv : List ResultVar} {ks : List AK} {rs : List RK} {Q : RKs rs → AKo ks → Prop} {st : St} (res : RKs rs) (out : AKo ks) (h : endK E rv ks rs res out st) (q : Q res out) : ∃ res out, Q res out ∧ endK E rv ks rs res out st := ⟨res, out, q, h⟩

/-- A method of a cursor. -/
theorem some_c {P : Program} {l : List (Nat × Ty)} (ht : tabB P (tabT l) l = true) (hm : P.follows .mixedOrders = true) {Γ : List Sig} (hΓ : Known P Γ) {f t : Nat} {ks : List AK} {rs : List RK} {fn : Func} (hks : (AK.cell t .cur :: ks).length ≤ 50000) (hf : P.funcs[f]? = some fn)
    (K : Nat) (pre : AKs ks → List Prop) (Q : AKs ks → RKs rs → Prop) (hO : ∀ a b : AKo ks, a = b)
    (hv : ∀ (c : Cur) (y : AKs ks), lenOk ks y → AtOk K c → andL (pre y) → vcSome (tabT l) Γ fn f (.cell t .cur :: ks) rs (c, y) fun R O => Q y R ∧ Adv K c O.1) :
    ∃ (V : Cur → AKs ks → RKs rs) (S : Cur → AKs ks → Cur), (∀ c y, lenOk ks y → AtOk K c → andL (pre y) → Q y (V c y)) ∧ (∀ c y, Adv K c (S c y)) ∧
      GSpec P ⟨f, .cell t .cur :: ks, rs, fun x => ⟨AtOk K x.1 :: pre x.2, V x.1 x.2, (S x.1 x.2, AKo.dflt ks)⟩⟩ := by
  obtain ⟨R, O, h, g⟩ := fn_some ht hm hΓ (f := f) hks hf (pre := fun x => AtOk K x.1 :: pre x.2) (Q := fun x R O => Q x.2 R ∧ Adv K x.1 O.1) (fun x hl hp => hv x.1 x.2 hl hp.1 hp.2)
  have dec : ∀ (c : Cur) (y : AKs ks), ∃ d, Adv K c d ∧ (lenOk ks y → AtOk K c → andL (pre y) → d = (O (c, y)).1) := by
    intro c y
    by_cases hc : lenOk ks y ∧ AtOk K c ∧ andL (pre y)
    · exact ⟨_, (h (c, y) hc.1 ⟨hc.2.1, hc.2.2⟩).2, fun _ _ _ => rfl⟩
    · exact ⟨c, Adv.refl _ _, fun h1 h2 h3 => (hc ⟨h1, h2, h3⟩).elim⟩
  refine ⟨fun c y => R (c, y), fun c y => Classical.choose (dec c y), fun c y h1 h2 h3 => (h (c, y) h1 ⟨h2, h3⟩).1, fun c y => (Classical.choose_spec (dec c y)).1, ?_⟩
  intro x vs w rb cb ob ha hr hn hb hp
  obtain ⟨c, y⟩ := x
  obtain ⟨_, _, hl, _⟩ := pars_ok (P := P) (i := 0) (ks := .cell t .cur :: ks) (by omega) ha hn
  have h1 := g (c, y) vs w rb cb ob ha hr hn hb hp
  have e : Classical.choose (dec c y) = (O (c, y)).1 := (Classical.choose_spec (dec c y)).2 hl hp.1 hp.2
  have e2 : (Classical.choose (dec c y), AKo.dflt ks) = O (c, y) := by
    rw [e]
    exact Prod.ext rfl (hO _ _)
  dsimp only at h1 ⊢
  rw [e2]
  exact h1
end Go.Vx
namespace Go.Vx
open Go
set_option maxRecDepth 100000
set_option linter.unusedSimpArgs false
set_option linter.unusedVariables false

theorem dvd_cop {a b c : Int} (h : Int.gcd b a = 1) (h2 : a ∣ b * c) : a ∣ c := by
  apply Int.natAbs_dvd_natAbs.1
  apply Nat.Coprime.dvd_of_dvd_mul_left (k := a.natAbs) (m := b.natAbs) (n := c.natAbs)
  · have : Nat.gcd b.natAbs a.natAbs = 1 := h
    rw [Nat.Coprime, Nat.gcd_comm]; exact this
  · rw [← Int.natAbs_mul]; exact Int.natAbs_dvd_natAbs.2 h2
theorem good_eq {a b : Rt} (ha : goodRt a = true) (hb : goodRt b = true) (h : a.num * b.den = b.num * a.den) : a = b := by
  rw [goodRt_iff] at ha hb
  obtain ⟨a1, a2, a3, a4, a5⟩ := ha
  obtain ⟨b1, b2, b3, b4, b5⟩ := hb
  have d1 : a.den ∣ b.den := by
    have : a.den ∣ a.num * b.den := by rw [h]; exact Int.dvd_mul_left _ _
    exact dvd_cop (by omega) this
  have d2 : b.den ∣ a.den := by
    have : b.den ∣ b.num * a.den := by rw [← h]; exact Int.dvd_mul_left _ _
    exact dvd_cop (by omega) this
  have e1 : a.den = b.den := Int.le_antisymm (Int.le_of_dvd (by omega) d1) (Int.le_of_dvd (by omega) d2)
  have e2 : a.num = b.num := by
    rw [e1] at h
    exact Int.eq_of_mul_eq_mul_right (by omega) h
  cases a; cases b; simp_all
theorem gsgn_dvd {n d : Int} : gsgn n d ∣ n ∧ gsgn n d ∣ d := by
  unfold gsgn
  split
  · exact ⟨Int.neg_dvd.2 (Int.gcd_dvd_left ..), Int.neg_dvd.2 (Int.gcd_dvd_right ..)⟩
  · exact ⟨Int.gcd_dvd_left .., Int.gcd_dvd_right ..⟩
theorem low_val {n d : Int} (h : (lowRt n d).2 = true) : (lowRt n d).1.num * d = n * (lowRt n d).1.den := by
  obtain ⟨h1, h2⟩ := @gsgn_dvd n d
  cases hg : goodRt ⟨n.tdiv (gsgn n d), d.tdiv (gsgn n d)⟩ with
  | false => rw [lowRt_f hg] at h; cases h
  | true =>
    rw [lowRt_t hg]
    dsimp only
    have e1 := Int.tdiv_mul_cancel h1
    have e2 := Int.tdiv_mul_cancel h2
    calc n.tdiv (gsgn n d) * d = n.tdiv (gsgn n d) * (d.tdiv (gsgn n d) * gsgn n d) := by rw [e2]
      _ = (n.tdiv (gsgn n d) * gsgn n d) * d.tdiv (gsgn n d) := by rw [Int.mul_comm (d.tdiv _), Int.mul_assoc]
      _ = n * d.tdiv (gsgn n d) := by rw [e1]
/-- small numbers stay so -/
theorem low_small {n d : Int} (h : 0 < d) (h2 : d ≤ 1000000000) (h3 : -1000000000 ≤ n ∧ n ≤ 1000000000) : (lowRt n d).2 = true := by
  have hg : gsgn n d = (Int.gcd n d : Int) := gsgn_pos (by omega)
  have h0 : Int.gcd n d ≠ 0 := by intro h4; have := (Int.gcd_eq_zero_iff.1 h4).2; omega
  have e : goodRt ⟨n.tdiv (gsgn n d), d.tdiv (gsgn n d)⟩ = true := by
    rw [hg, goodRt_iff]
    dsimp only
    have b1 := @tdiv_bd n (Int.gcd n d)
    have b2 := @tdiv_bd d (Int.gcd n d)
    have p : 0 < d.tdiv (Int.gcd n d) := by
      have e2 := Int.tdiv_mul_cancel (Int.gcd_dvd_right n d)
      rcases Int.lt_trichotomy (d.tdiv (Int.gcd n d)) 0 with h5 | h5 | h5
      · have := Int.mul_neg_of_neg_of_pos h5 (show (0 : Int) < Int.gcd n d by omega); omega
      · rw [h5, Int.zero_mul] at e2; omega
      · exact h5
    have c : Int.gcd (n.tdiv (Int.gcd n d)) (d.tdiv (Int.gcd n d)) = 1 := by
      rw [Int.tdiv_eq_ediv_of_dvd (Int.gcd_dvd_left ..), Int.tdiv_eq_ediv_of_dvd (Int.gcd_dvd_right ..)]
      exact Int.gcd_ediv_gcd_ediv_gcd (by omega)
    omega
  rw [lowRt_t e]

/-- the rational number of a fraction -/
def qR (r : Rt) : Rat := (r.num : Rat) / (r.den : Rat)
theorem den_pos {r : Rt} (h : goodRt r = true) : (0 : Rat) < (r.den : Rat) := by
  have := (goodRt_iff.1 h).1
  exact Rat.intCast_pos.2 (by omega)
theorem qR_mul {r : Rt} (h : goodRt r = true) : qR r * (r.den : Rat) = (r.num : Rat) := by
  have := den_pos h
  unfold qR
  rw [Rat.div_mul_cancel (by grind)]
theorem cross {a b : Rt} : ((a.num * b.den : Int) : Rat) = (a.num : Rat) * (b.den : Rat) := Rat.intCast_mul ..
theorem q_lt {a b : Rt} (ha : goodRt a = true) (hb : goodRt b = true) : a.num * b.den < b.num * a.den ↔ qR a < qR b := by
  have h1 := den_pos ha
  have h2 := den_pos hb
  have e1 := qR_mul ha
  have e2 := qR_mul hb
  rw [← Rat.intCast_lt_intCast, Rat.intCast_mul, Rat.intCast_mul, ← e1, ← e2]
  have h3 := Rat.mul_pos h1 h2
  constructor
  · intro h
    by_cases h4 : qR a < qR b
    · exact h4
    · by_cases h5 : qR a = qR b
      · rw [h5] at h; grind
      · have := Rat.mul_pos (show 0 < qR a - qR b by grind) h3; grind
  · intro h
    have := Rat.mul_pos (show 0 < qR b - qR a by grind) h3; grind
end Go.Vx
namespace Go.Vx
open Go Go.Proofs
set_option maxRecDepth 100000
set_option linter.unusedSimpArgs false
set_option linter.unusedVariables false

def mkI (k : Int) (n : Nat) : List Int := (List.range n).map fun (i : Nat) => k + (i : Int)
def mkR (k : Int) (n : Nat) : List Rt := (List.range n).map fun (i : Nat) => ⟨k + 2 * (i : Int), k + 2 * (i : Int) + 1⟩

theorem mkI_length (k : Int) (n : Nat) : (mkI k n).length = n := by simp [mkI]
theorem mkR_length (k : Int) (n : Nat) : (mkR k n).length = n := by simp [mkR]
theorem getA_lt {α : Type} (d : α) (l : List α) (i : Nat) (h : i < l.length) : getA d l i = l[i] := by
  rw [getA_eq]; simp [List.getD, h]
theorem take_eq_succ {α : Type} (d : α) (a b : List α) (i : Nat) (ha : i < a.length) (hb : i < b.length) (h : a.take i = b.take i) (hx : getA d a i = getA d b i) : a.take (i + 1) = b.take (i + 1) := by
  rw [getA_lt d a i ha, getA_lt d b i hb] at hx
  rw [List.take_add_one, List.take_add_one, h, List.getElem?_eq_getElem ha, List.getElem?_eq_getElem hb, hx]
theorem eq_of_take {α : Type} {a b : List α} {i : Nat} (hl : a.length = b.length) (hi : ¬ i < a.length) (h : a.take i = b.take i) : a = b := by
  rwa [List.take_of_length_le (by omega), List.take_of_length_le (by omega)] at h
theorem set_mark {α : Type} (f : Nat → α) (l : List α) (i : Nat) (x : α) (hi : i < l.length) (hx : x = f i) :
    (((List.range i).map f ++ l.drop i).set i x) = (List.range (i + 1)).map f ++ l.drop (i + 1) := by
  subst hx
  rw [List.set_append_right _ _ (by simp)]
  simp only [List.length_map, List.length_range, Nat.sub_self]
  rw [List.drop_eq_getElem_cons hi, List.set_cons_zero, List.range_succ, List.map_append, List.append_assoc]
  rfl
theorem getA_mark {α : Type} (d : α) (f : Nat → α) (l : List α) (i : Nat) (hi : i < l.length) : getA d ((List.range i).map f ++ l.drop i) i = getA d l i := by
  rw [getA_eq, getA_eq, List.getD, List.getD, List.getElem?_append_right (by simp)]
  simp
theorem mark_length {α : Type} (f : Nat → α) (l : List α) (i : Nat) (hi : i ≤ l.length) : ((List.range i).map f ++ l.drop i).length = l.length := by simp; omega
theorem mark_end {α : Type} (f : Nat → α) (l : List α) (i : Nat) (hi : ¬ i < l.length) (hi' : i ≤ l.length) : (List.range i).map f ++ l.drop i = (List.range l.length).map f := by
  have : i = l.length := by omega
  subst this; simp
theorem take_range_succ {α : Type} (d : α) (f : Nat → α) (l : List α) (i : Nat) (hi : i < l.length) (h : l.take i = (List.range i).map f) (hx : getA d l i = f i) : l.take (i + 1) = (List.range (i + 1)).map f := by
  rw [getA_lt d l i hi] at hx
  rw [List.take_add_one, h, List.getElem?_eq_getElem hi, hx, List.range_succ, List.map_append]; rfl
theorem ne_range {α : Type} (d : α) (f : Nat → α) (l : List α) (i : Nat) (hi : i < l.length) (hx : getA d l i ≠ f i) : l ≠ (List.range l.length).map f := by
  intro h
  apply hx
  rw [getA_lt d l i hi]
  rw [List.getElem_of_eq h hi]; simp

noncomputable def s_laws_eqRat : Sig := ⟨181, [.val .rat, .val .rat], [.val .bool], fun ((a : Rt), (b : Rt), _) => ⟨[], (decide (a = b), ()), ()⟩⟩

theorem ok_laws_eqRat : GSpec Tryz.prog s_laws_eqRat := by
  refine fn_known tab_ok fol Known.nil (by decide) Tryz.func181 ?_
  rintro ⟨⟨(n : Int), (d : Int)⟩, ⟨(m : Int), (e : Int)⟩, ⟨⟩⟩ hl _
  repeat' (first | with_reducible apply andAll_cons | with_reducible apply andAll_nil | (with_reducible apply Cf.mk; kernel_rfl) | apply And.intro | intro _ | exact True.intro | apply Lf.mk)
  all_goals (try simp only [Bool.not_eq_true', Bool.not_eq_false', Bool.not_not, decide_eq_true_eq, decide_eq_false_iff_not, beq_iff_eq, bne_iff_ne, beq_eq_false_iff_ne, bne_eq_false_iff_eq, ne_eq, Bool.and_eq_true, Bool.and_eq_false_iff, Bool.or_eq_true, Bool.or_eq_false_iff, Int.toNat_natCast, Nat.zero_add, Int.ofNat_lt, Int.ofNat_le, List.length_cons, List.length_nil, List.drop_zero, List.take_length] at *)
  all_goals (try change @Eq Bool _ _)
  all_goals simp_all









noncomputable def s_laws_toRat : Sig := ⟨99, [.val .rat], [.val .rat], fun ((a : Rt), _) => ⟨[], (a, ()), ()⟩⟩
theorem ok_laws_toRat : GSpec Tryz.prog s_laws_toRat := by
  refine fn_known tab_ok fol Known.nil (by decide) Tryz.func99 ?_
  rintro ⟨⟨(n : Int), (d : Int)⟩, ⟨⟩⟩ hl _
  repeat' (first | with_reducible apply andAll_cons | with_reducible apply andAll_nil | (with_reducible apply Cf.mk; kernel_rfl) | apply And.intro | intro _ | exact True.intro | apply Lf.mk)
  all_goals rfl
end Go.Vx
namespace Go.Vx
open Go
set_option maxRecDepth 100000
set_option linter.unusedSimpArgs false
set_option linter.unusedVariables false

theorem set_app_last {α : Type} (c : List α) (a b : α) : (c ++ [a]).set c.length b = c ++ [b] := by
  rw [List.set_append_right _ _ (Nat.le_refl _), Nat.sub_self]; rfl
theorem getA_app_last {α : Type} (d : α) (c : List α) (a : α) : getA d (c ++ [a]) c.length = a := by
  rw [getA_lt _ _ _ (by simp)]; simp

abbrev zR : Rt := ⟨0, 0⟩
def stF (s : List Rt × List Int) (x : Rt) : List Rt × List Int :=
  if 0 < s.1.length ∧ getA zR s.1 (s.1.length - 1) = x then (s.1, s.2.set (s.2.length - 1) (getA 0 s.2 (s.2.length - 1) + 1))
  else (s.1 ++ [x], s.2 ++ [1])
def stL (l : List Rt) (i : Nat) : List Rt × List Int := (l.take i).foldl stF ([], [])
theorem stL_succ {l : List Rt} {i : Nat} (h : i < l.length) : stL l (i + 1) = stF (stL l i) (getA zR l i) := by
  unfold stL
  rw [List.take_add_one, List.foldl_append, List.getElem?_eq_getElem h, getA_lt _ _ _ h]
  rfl
/-- what holds after i elements -/
def StI (l : List Rt) (i : Nat) (s : List Rt × List Int) : Prop :=
  s.1.length = s.2.length ∧ s.1.length ≤ i ∧ (0 < i → 0 < s.1.length ∧ getA zR s.1 (s.1.length - 1) = getA zR l (i - 1)) ∧ ∀ x ∈ s.2, 1 ≤ x ∧ x ≤ i
theorem stF_inv {l : List Rt} {i : Nat} {s : List Rt × List Int} (h : StI l i s) : StI l (i + 1) (stF s (getA zR l i)) := by
  obtain ⟨h1, h2, h3, h4⟩ := h
  unfold stF
  split
  · rename_i h5
    refine ⟨by simpa using h1, by simpa using (by omega : s.1.length ≤ i + 1), fun _ => ⟨h5.1, ?_⟩, ?_⟩
    · simpa using h5.2
    · intro x hx
      rcases List.mem_or_eq_of_mem_set hx with hx | rfl
      · have := h4 x hx; omega
      · have := h4 _ (getA_mem 0 (l := s.2) (i := s.2.length - 1) (by omega)); omega
  · refine ⟨by simp [h1], by simp; omega, fun _ => ⟨by simp, ?_⟩, ?_⟩
    · simp only [List.length_append, List.length_singleton, Nat.add_sub_cancel]
      rw [getA_app_last]
    · intro x hx
      rcases List.mem_append.1 hx with hx | hx
      · have := h4 x hx; omega
      · simp at hx; omega
theorem stL_inv (l : List Rt) : ∀ (i : Nat), i ≤ l.length → StI l i (stL l i)
  | 0, _ => ⟨rfl, Nat.le_refl _, fun h => by omega, fun x hx => by cases hx⟩
  | i + 1, h => by rw [stL_succ (by omega)]; exact stF_inv (stL_inv l i (by omega))
theorem stF_hit {s : List Rt × List Int} {x : Rt} (h : 0 < s.1.length) (h2 : getA zR s.1 (s.1.length - 1) = x) : stF s x = (s.1, s.2.set (s.2.length - 1) (getA 0 s.2 (s.2.length - 1) + 1)) := by
  unfold stF; rw [if_pos ⟨h, h2⟩]
theorem stF_miss {s : List Rt × List Int} {x : Rt} (h2 : 0 < s.1.length → getA zR s.1 (s.1.length - 1) ≠ x) : stF s x = (s.1 ++ [x], s.2 ++ [1]) := by
  unfold stF; rw [if_neg (fun h => h2 h.1 h.2)]

def maxF (m x : Int) : Int := if m < x then x else m
def maxL (l : List Int) : Int := (l.drop 1).foldl maxF (getA (0 : Int) l 0)
/-- the first of the greatest numbers, as a loop finds it -/
def bestF (l : List Int) : Nat → Nat
  | 0 => 0
  | i + 1 => if getA (0 : Int) l (bestF l i) < getA (0 : Int) l i then i else bestF l i
theorem bestF_spec (l : List Int) : ∀ (i : Nat), 0 < i → i ≤ l.length → bestF l i < i ∧ (∀ j, j < i → getA (0 : Int) l j ≤ getA (0 : Int) l (bestF l i)) ∧ (∀ j, j < bestF l i → getA (0 : Int) l j < getA (0 : Int) l (bestF l i))
  | 1, _, _ => by
    have : bestF l 1 = 0 := by unfold bestF; rw [if_neg]; · rfl
                               · intro h; exact absurd h (by simp [bestF])
    rw [this]
    exact ⟨by omega, fun j hj => by rw [show j = 0 by omega]; exact Int.le_refl _, fun j hj => by omega⟩
  | i + 2, _, h => by
    obtain ⟨h1, h2, h3⟩ := bestF_spec l (i + 1) (by omega) (by omega)
    show bestF l (i + 1 + 1) < _ ∧ (∀ j, j < _ → _ ≤ getA (0 : Int) l (bestF l (i + 1 + 1))) ∧ (∀ j, j < bestF l (i + 1 + 1) → _ < getA (0 : Int) l (bestF l (i + 1 + 1)))
    rw [show bestF l (i + 1 + 1) = if getA (0 : Int) l (bestF l (i + 1)) < getA (0 : Int) l (i + 1) then i + 1 else bestF l (i + 1) from rfl]
    split
    · rename_i h4
      refine ⟨by omega, fun j hj => ?_, fun j hj => ?_⟩
      · rcases Nat.lt_or_ge j (i + 1) with h5 | h5
        · have := h2 j h5; omega
        · rw [show j = i + 1 by omega]; exact Int.le_refl _
      · have := h2 j hj; omega
    · rename_i h4
      refine ⟨by omega, fun j hj => ?_, h3⟩
      rcases Nat.lt_or_ge j (i + 1) with h5 | h5
      · exact h2 j h5
      · rw [show j = i + 1 by omega]; omega
theorem foldl_max_le : ∀ (l : List Int) (m : Int), m ≤ l.foldl maxF m ∧ (∀ x ∈ l, x ≤ l.foldl maxF m) ∧ (l.foldl maxF m = m ∨ l.foldl maxF m ∈ l)
  | [], m => ⟨Int.le_refl _, (fun x hx => by cases hx), .inl rfl⟩
  | a :: r, m => by
    obtain ⟨h1, h2, h3⟩ := foldl_max_le r (maxF m a)
    rw [List.foldl_cons]
    have h4 : m ≤ maxF m a ∧ a ≤ maxF m a ∧ (maxF m a = m ∨ maxF m a = a) := by unfold maxF; split <;> omega
    refine ⟨by omega, fun x hx => ?_, ?_⟩
    · rcases List.mem_cons.1 hx with rfl | hx
      · omega
      · exact h2 x hx
    · rcases h3 with h3 | h3
      · rcases h4.2.2 with h5 | h5
        · exact .inl (h3.trans h5)
        · exact .inr (by rw [h3, h5]; simp)
      · exact .inr (List.mem_cons_of_mem _ h3)
theorem maxL_best {l : List Int} (h : 0 < l.length) : maxL l = getA (0 : Int) l (bestF l l.length) := by
  obtain ⟨h1, h2, h3⟩ := bestF_spec l l.length h (Nat.le_refl _)
  match l, h with
  | a :: r, _ =>
    obtain ⟨g1, g2, g3⟩ := foldl_max_le r a
    have e : maxL (a :: r) = r.foldl maxF a := rfl
    rw [e]
    apply Int.le_antisymm
    · have : ∃ j, j < (a :: r).length ∧ getA (0 : Int) (a :: r) j = r.foldl maxF a := by
        have hm : r.foldl maxF a ∈ a :: r := by
          rcases g3 with g3 | g3
          · rw [g3]; simp
          · exact List.mem_cons_of_mem _ g3
        obtain ⟨j, hj, he⟩ := List.mem_iff_getElem.1 hm
        exact ⟨j, hj, by rw [getA_lt _ _ _ hj, he]⟩
      obtain ⟨j, hj, he⟩ := this
      rw [← he]; exact h2 j hj
    · have hm : getA (0 : Int) (a :: r) (bestF (a :: r) (a :: r).length) ∈ a :: r := getA_mem _ h1
      rcases List.mem_cons.1 hm with hm | hm
      · rw [hm]; exact g1
      · exact g2 _ hm
theorem idx_best {l : List Int} (h : 0 < l.length) : idxF (fun y => maxL l == y) l = (bestF l l.length : Nat) := by
  obtain ⟨h1, h2, h3⟩ := bestF_spec l l.length h (Nat.le_refl _)
  have e := maxL_best h
  refine idxF_hit (0 : Int) h1 ?_ (by rw [e]; simp)
  rw [List.any_eq_false]
  intro x hx
  obtain ⟨j, hj, he⟩ := List.mem_take_iff_getElem.1 hx
  have := h3 j (by omega)
  rw [getA_lt _ _ _ (by omega), he] at this
  rw [e]; simp; omega

/-- a list with each number at least the one before -/
def sortF {α : Type} (d : α) (c : α → α → Int) (l : List α) : Bool := (List.range (l.length - 1)).all fun i => !decide (c (getA d l (i + 1)) (getA d l i) < 0)
theorem sortF_iff {α : Type} {d : α} {c : α → α → Int} {l : List α} : sortF d c l = true ↔ ∀ i, i + 1 < l.length → ¬ c (getA d l (i + 1)) (getA d l i) < 0 := by
  unfold sortF
  rw [List.all_eq_true]
  constructor
  · intro h i hi
    have := h i (List.mem_range.2 (by omega))
    simpa using this
  · intro h i hi
    have := h i (by have := List.mem_range.1 hi; omega)
    simpa using this
theorem sgn_negI (n : Int) : sgn (-n) = - sgn n := by
  unfold sgn
  rcases Int.lt_trichotomy n 0 with h | h | h
  · rw [if_neg (by omega), if_pos (by omega), if_pos h]; rfl
  · subst h; rfl
  · rw [if_pos (by omega), if_neg (by omega), if_pos h]
theorem cmpRt_swap (a b : Rt) : cmpRt b a = - cmpRt a b := by
  unfold cmpRt; rw [← sgn_negI, Int.neg_sub]
@[irreducible] def grR (a b : Rt) : Rt := if a.num * b.den < b.num * a.den then b else a
def mergeR (a b : List Rt) (i : Nat) : List Rt := (List.range i).map fun k => grR (getA zR a k) (getA zR b k)
theorem mergeR_length (a b : List Rt) (i : Nat) : (mergeR a b i).length = i := by simp [mergeR]
theorem mergeR_succ (a b : List Rt) (i : Nat) : mergeR a b i ++ [grR (getA zR a i) (getA zR b i)] = mergeR a b (i + 1) := by
  unfold mergeR; rw [List.range_succ, List.map_append]; rfl
theorem cmpRt_neg {a b : Rt} : cmpRt a b < 0 ↔ a.num * b.den < b.num * a.den := by
  unfold cmpRt sgn; split <;> (try split) <;> omega
end Go.Vx
namespace Go.Vx
open Go Go.Proofs
set_option maxRecDepth 100000
set_option linter.unusedSimpArgs false
set_option linter.unusedVariables false

noncomputable def s_impl_isUnit : Sig := ⟨116, [.val .rat], [.val .bool], fun ((r : Rt), _) => ⟨[], (unitRt r, ()), ()⟩⟩
noncomputable def s_impl_areUnits_1 : Sig := ⟨214, [.val .rat], [.val .bool], fun ((r : Rt), _) => ⟨[], (!unitRt r, ()), ()⟩⟩
noncomputable def s_impl_areUnits : Sig := ⟨152, [.list .rat], [.val .bool], fun ((l : List Rt), _) => ⟨[], (l.all unitRt, ()), ()⟩⟩
noncomputable def s_spec_raUnit : Sig := ⟨109, [.val .rat], [.val .bool], fun ((r : Rt), _) => ⟨[], (unitRt r, ()), ()⟩⟩

theorem ok_impl_isUnit : GSpec Tryz.prog s_impl_isUnit := by
  refine fn_known tab_ok fol (Known.nil.cons ok_impl_isRat (by kernel_rfl)) (by decide) Tryz.func116 ?_
  rintro ⟨⟨(n : Int), (d : Int)⟩, ⟨⟩⟩ hl _
  repeat' (first | with_reducible apply andAll_cons | with_reducible apply andAll_nil | (with_reducible apply Cf.mk; kernel_rfl) | apply And.intro | intro _ | exact True.intro | apply Lf.mk)
  all_goals (try simp only [Bool.not_eq_true', Bool.not_eq_false', Bool.not_not, decide_eq_true_eq, decide_eq_false_iff_not, beq_iff_eq, bne_iff_ne, beq_eq_false_iff_ne, bne_eq_false_iff_eq, ne_eq, Bool.and_eq_true, Bool.and_eq_false_iff, Bool.or_eq_true, Bool.or_eq_false_iff, Int.toNat_natCast, Nat.zero_add, Int.ofNat_lt, Int.ofNat_le, List.length_cons, List.length_nil, List.drop_zero, List.take_length] at *)
  all_goals (try change @Eq Bool _ _)
  all_goals (simp_all [unitRt])
  all_goals omega
theorem ok_impl_areUnits_1 : GSpec Tryz.prog s_impl_areUnits_1 := by
  refine fn_known tab_ok fol (Known.nil.cons ok_impl_isUnit (by kernel_rfl)) (by decide) Tryz.func214 ?_
  rintro ⟨⟨(n : Int), (d : Int)⟩, ⟨⟩⟩ hl _
  repeat' (first | with_reducible apply andAll_cons | with_reducible apply andAll_nil | (with_reducible apply Cf.mk; kernel_rfl) | apply And.intro | intro _ | exact True.intro | apply Lf.mk)
  all_goals rfl
theorem any_not {α : Type} (p : α → Bool) (l : List α) : (!(l.any fun x => !p x)) = l.all p := by
  rw [List.not_any_eq_all_not]; simp
theorem ok_impl_areUnits : GSpec Tryz.prog s_impl_areUnits := by
  refine fn_known tab_ok fol ((Known.nil.cons ok_lib_ContainsFuncRat (by kernel_rfl)).cons ok_impl_areUnits_1 (by kernel_rfl)) (by decide) Tryz.func152 ?_
  rintro ⟨(l : List Rt), ⟨⟩⟩ hl _
  repeat' (first | with_reducible apply andAll_cons | with_reducible apply andAll_nil | (with_reducible apply Cf.mk; kernel_rfl) | apply And.intro | intro _ | exact True.intro | apply Lf.mk)
  all_goals (try simp only [Bool.not_eq_true', Bool.not_eq_false', Bool.not_not, decide_eq_true_eq, decide_eq_false_iff_not, beq_iff_eq, bne_iff_ne, beq_eq_false_iff_ne, bne_eq_false_iff_eq, ne_eq, Bool.and_eq_true, Bool.and_eq_false_iff, Bool.or_eq_true, Bool.or_eq_false_iff, Int.toNat_natCast, Nat.zero_add, Int.ofNat_lt, Int.ofNat_le, List.length_cons, List.length_nil, List.drop_zero, List.take_length] at *)
  all_goals first | exact any_not _ _ | trivial | rfl | trace_state
theorem ok_spec_raUnit : GSpec Tryz.prog s_spec_raUnit := by
  refine fn_known tab_ok fol ((Known.nil.cons ok_spec_raGood (by kernel_rfl)).cons ok_spec_l1In (by kernel_rfl)) (by decide) Tryz.func109 ?_
  rintro ⟨⟨(n : Int), (d : Int)⟩, ⟨⟩⟩ hl _
  repeat' (first | with_reducible apply andAll_cons | with_reducible apply andAll_nil | (with_reducible apply Cf.mk; kernel_rfl) | apply And.intro | intro _ | exact True.intro | apply Lf.mk)
  all_goals (try simp only [Bool.not_eq_true', Bool.not_eq_false', Bool.not_not, decide_eq_true_eq, decide_eq_false_iff_not, beq_iff_eq, bne_iff_ne, beq_eq_false_iff_ne, bne_eq_false_iff_eq, ne_eq, Bool.and_eq_true, Bool.and_eq_false_iff, Bool.or_eq_true, Bool.or_eq_false_iff, Int.toNat_natCast, Nat.zero_add, Int.ofNat_lt, Int.ofNat_le, List.length_cons, List.length_nil, List.drop_zero, List.take_length] at *)
  all_goals (try change @Eq Bool _ _)
  all_goals (simp_all [unitRt, inB])
  all_goals omega
end Go.Vx
