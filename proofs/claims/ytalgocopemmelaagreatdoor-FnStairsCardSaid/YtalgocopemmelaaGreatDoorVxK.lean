/- Computing with fractions: the program's functions and the reference's. -/
import Derived.Test.YtalgocopemmelaaGreatDoorVxC
import Derived.Test.YtalgocopemmelaaGreatDoorVpQ
namespace Go.Vx
open Go Go.Proofs
set_option maxRecDepth 100000
set_option linter.unusedSimpArgs false
set_option linter.unusedVariables false

abbrev cT : Nat := 105
noncomputable def guardR (a b : Rt) (r : Rt × Bool) : Rt × Bool := match goodRt a && goodRt b with
  | true => r
  | false => (⟨0, 0⟩, false)
theorem guardR_t {a b : Rt} {r : Rt × Bool} (h1 : goodRt a = true) (h2 : goodRt b = true) : guardR a b r = r := by unfold guardR; rw [h1, h2]; rfl
noncomputable def s_impl_zero : Sig := ⟨88, [], [.val .rat], fun _ => ⟨[], ((⟨0, 1⟩ : Rt), ()), ()⟩⟩
theorem ok_impl_zero : GSpec Tryz.prog s_impl_zero := by
  refine fn_known tab_ok fol Known.nil (by decide) Tryz.func88 ?_
  rintro ⟨⟩ hl _
  repeat' (first | with_reducible apply andAll_cons | with_reducible apply andAll_nil | (with_reducible apply Cf.mk; kernel_rfl) | apply And.intro | intro _ | exact True.intro | apply Lf.mk)
  all_goals rfl
noncomputable def s_impl_oneRat : Sig := ⟨89, [], [.val .rat], fun _ => ⟨[], ((⟨1, 1⟩ : Rt), ()), ()⟩⟩
theorem ok_impl_oneRat : GSpec Tryz.prog s_impl_oneRat := by
  refine fn_known tab_ok fol Known.nil (by decide) Tryz.func89 ?_
  rintro ⟨⟩ hl _
  repeat' (first | with_reducible apply andAll_cons | with_reducible apply andAll_nil | (with_reducible apply Cf.mk; kernel_rfl) | apply And.intro | intro _ | exact True.intro | apply Lf.mk)
  all_goals rfl
noncomputable def s_impl_whole : Sig := ⟨87, [.val NI], [.val .rat], fun ((n : Int), _) => ⟨[], ((⟨n, 1⟩ : Rt), ()), ()⟩⟩
theorem ok_impl_whole : GSpec Tryz.prog s_impl_whole := by
  refine fn_known tab_ok fol Known.nil (by decide) Tryz.func87 ?_
  rintro ⟨(n : Int), ⟨⟩⟩ hl _
  repeat' (first | with_reducible apply andAll_cons | with_reducible apply andAll_nil | (with_reducible apply Cf.mk; kernel_rfl) | apply And.intro | intro _ | exact True.intro | apply Lf.mk)
  all_goals rfl
noncomputable def s_spec_raInt : Sig := ⟨69, [.val NI], [.val .rat], fun ((n : Int), _) => ⟨[], ((⟨n, 1⟩ : Rt), ()), ()⟩⟩
theorem ok_spec_raInt : GSpec Tryz.prog s_spec_raInt := by
  refine fn_known tab_ok fol Known.nil (by decide) Tryz.func69 ?_
  rintro ⟨(n : Int), ⟨⟩⟩ hl _
  repeat' (first | with_reducible apply andAll_cons | with_reducible apply andAll_nil | (with_reducible apply Cf.mk; kernel_rfl) | apply And.intro | intro _ | exact True.intro | apply Lf.mk)
  all_goals rfl
noncomputable def s_impl_AddRats : Sig := ⟨102, [.val .rat, .val .rat], [.val .rat, .val .bool], fun ((a : Rt), (b : Rt), _) => ⟨[], ((guardR a b (addRt a b)).1, (guardR a b (addRt a b)).2, ()), ()⟩⟩
theorem ok_impl_AddRats : GSpec Tryz.prog s_impl_AddRats := by
  refine fn_known tab_ok fol ((Known.nil.cons ok_impl_areRats (by kernel_rfl)).cons ok_impl_lowest (by kernel_rfl)) (by decide) Tryz.func102 ?_
  rintro ⟨⟨(n : Int), (d : Int)⟩, ⟨(m : Int), (e : Int)⟩, ⟨⟩⟩ hl _
  cases h1 : goodRt ⟨n, d⟩ <;> cases h2 : goodRt ⟨m, e⟩
  rotate_right
  · have hb := okmul (ok_good h1) (ok_good h2)
    have hg1 := goodRt_iff.1 h1
    have hg2 := goodRt_iff.1 h2
    have hd := denmul h1 h2
    dsimp only at hb hg1 hg2 hd
    repeat' (first | with_reducible apply andAll_cons | with_reducible apply andAll_nil | (with_reducible apply Cf.mk; kernel_rfl) | apply And.intro | intro _ | exact True.intro | apply Lf.mk)
    all_goals (try simp only [Bool.not_eq_true', Bool.not_eq_false', Bool.not_not, decide_eq_true_eq, decide_eq_false_iff_not, beq_iff_eq, bne_iff_ne, beq_eq_false_iff_ne, bne_eq_false_iff_eq, ne_eq, Bool.and_eq_true, Bool.and_eq_false_iff, Bool.or_eq_true, Bool.or_eq_false_iff, Int.toNat_natCast, Nat.zero_add, Int.ofNat_lt, Int.ofNat_le, List.length_cons, List.length_nil, List.drop_zero, List.take_length] at *)
    all_goals first | omega | simp_all; done | skip
    all_goals first
      | (rw [guardR_t h1 h2]; rfl)
      | (have h0 : m = 0 := by assumption
         subst h0
         rw [guardR_t h1 h2]
         unfold divRt
         dsimp only
         rw [Int.mul_zero, lowRt_zero])
      | (exfalso
         have h0 : d * m = 0 := by assumption
         rcases Int.mul_eq_zero.1 h0 with h0 | h0 <;> omega)
  all_goals
    repeat' (first | with_reducible apply andAll_cons | with_reducible apply andAll_nil | (with_reducible apply Cf.mk; kernel_rfl) | apply And.intro | intro _ | exact True.intro | apply Lf.mk)
    all_goals first | assumption | omega | simp_all; done | skip
    all_goals (unfold guardR; rw [h1, h2])
    all_goals rfl
noncomputable def s_spec_raAdd : Sig := ⟨83, [.val .rat, .val .rat], [.val .rat, .val .bool], fun ((a : Rt), (b : Rt), _) => ⟨[okRt a = true, okRt b = true], ((addRt a b).1, (addRt a b).2, ()), ()⟩⟩
theorem ok_spec_raAdd : GSpec Tryz.prog s_spec_raAdd := by
  refine fn_known tab_ok fol (Known.nil.cons ok_spec_raMake (by kernel_rfl)) (by decide) Tryz.func83 ?_
  rintro ⟨⟨(n : Int), (d : Int)⟩, ⟨(m : Int), (e : Int)⟩, ⟨⟩⟩ hl ⟨h1, h2, _⟩
  have hb := okmul h1 h2
  dsimp only at hb
  repeat' (first | with_reducible apply andAll_cons | with_reducible apply andAll_nil | (with_reducible apply Cf.mk; kernel_rfl) | apply And.intro | intro _ | exact True.intro | apply Lf.mk)
  all_goals (try simp only [Bool.not_eq_true', Bool.not_eq_false', Bool.not_not, decide_eq_true_eq, decide_eq_false_iff_not, beq_iff_eq, bne_iff_ne, beq_eq_false_iff_ne, bne_eq_false_iff_eq, ne_eq, Bool.and_eq_true, Bool.and_eq_false_iff, Bool.or_eq_true, Bool.or_eq_false_iff, Int.toNat_natCast, Nat.zero_add, Int.ofNat_lt, Int.ofNat_le, List.length_cons, List.length_nil, List.drop_zero, List.take_length] at *)
  all_goals first | omega | rfl | skip
  all_goals
    have h0 : m = 0 := by assumption
    subst h0
    unfold divRt
    dsimp only
    rw [Int.mul_zero, lowRt_zero]
noncomputable def s_calc_keep : Sig := ⟨101, [.cell cT .bool, .val .rat, .val .bool], [.val .rat], fun ((c : Bool), (a : Rt), (ok : Bool), _) => ⟨[], (opR (a, ok), ()), (c || !ok, ())⟩⟩
theorem ok_calc_keep : GSpec Tryz.prog s_calc_keep := by
  refine fn_known tab_ok fol (Known.nil.cons ok_impl_zero (by kernel_rfl)) (by decide) Tryz.func101 ?_
  rintro ⟨(c : Bool), ⟨(n : Int), (d : Int)⟩, (ok : Bool), ⟨⟩⟩ hl _
  cases ok
  · repeat' (first | with_reducible apply andAll_cons | with_reducible apply andAll_nil | (with_reducible apply Cf.mk; kernel_rfl) | apply And.intro | intro _ | exact True.intro | apply Lf.mk)
    all_goals first | (unfold opR; rfl) | rfl | simp_all; done
  · repeat' (first | with_reducible apply andAll_cons | with_reducible apply andAll_nil | (with_reducible apply Cf.mk; kernel_rfl) | apply And.intro | intro _ | exact True.intro | apply Lf.mk)
    all_goals first | (unfold opR; rfl) | rfl | simp_all; done
noncomputable def s_calc_add : Sig := ⟨92, [.cell cT .bool, .val .rat, .val .rat], [.val .rat], fun ((c : Bool), (a : Rt), (b : Rt), _) => ⟨[goodRt a = true, goodRt b = true], (opR (addRt a b), ()), (c || !(addRt a b).2, ())⟩⟩
theorem ok_calc_add : GSpec Tryz.prog s_calc_add := by
  refine fn_known tab_ok fol ((Known.nil.cons ok_calc_keep (by kernel_rfl)).cons ok_impl_AddRats (by kernel_rfl)) (by decide) Tryz.func92 ?_
  rintro ⟨(c : Bool), ⟨(n : Int), (d : Int)⟩, ⟨(m : Int), (e : Int)⟩, ⟨⟩⟩ hl ⟨h1, h2, _⟩
  have e1 : guardR ⟨n, d⟩ ⟨m, e⟩ (addRt ⟨n, d⟩ ⟨m, e⟩) = addRt ⟨n, d⟩ ⟨m, e⟩ := guardR_t h1 h2
  have e2 := ok_good h2
  repeat' (first | with_reducible apply andAll_cons | with_reducible apply andAll_nil | (with_reducible apply Cf.mk; kernel_rfl) | apply And.intro | intro _ | exact True.intro | apply Lf.mk)
  all_goals first | exact e2 | rfl | (rw [← e1]; rfl) | (simp only [e1]; done) | (simp only [e1]; rfl)
end Go.Vx
