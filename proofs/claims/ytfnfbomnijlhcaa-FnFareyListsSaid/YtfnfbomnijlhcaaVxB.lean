/- Neighbours and mediants: the program's functions and the reference's return the same. -/
import Derived.Test.YtfnfbomnijlhcaaVxL
namespace Go.Vx
open Go Go.Proofs
set_option maxRecDepth 100000
set_option linter.unusedSimpArgs false
set_option linter.unusedVariables false

noncomputable def risingRt (a b : Rt) : Bool := goodRt a && goodRt b && lessRt a b
def nearRt (a b : Rt) : Bool := decide (b.num * a.den - a.num * b.den = 1)
noncomputable def s_spec_faRising : Sig := ⟨44, [.val .rat, .val .rat], [.val .bool], fun ((a : Rt), (b : Rt), _) => ⟨[], (risingRt a b, ()), ()⟩⟩
noncomputable def s_spec_faNear : Sig := ⟨46, [.val .rat, .val .rat], [.val .bool], fun ((a : Rt), (b : Rt), _) => ⟨[goodRt a = true, goodRt b = true], (nearRt a b, ()), ()⟩⟩
noncomputable def s_spec_AreNeighbours : Sig := ⟨14, [.val .rat, .val .rat], [.val .bool, .val .bool], fun ((a : Rt), (b : Rt), _) => ⟨[], (risingRt a b && nearRt a b, risingRt a b, ()), ()⟩⟩
noncomputable def s_impl_AreNeighbours : Sig := ⟨13, [.val .rat, .val .rat], [.val .bool, .val .bool], fun ((a : Rt), (b : Rt), _) => ⟨[], (risingRt a b && nearRt a b, risingRt a b, ()), ()⟩⟩

theorem ok_spec_faRising : GSpec Try.prog s_spec_faRising := by
  refine fn_known tab_ok fol ((Known.nil.cons ok_spec_raGood (by kernel_rfl)).cons ok_spec_raCmp (by kernel_rfl)) (by decide) Try.func44 ?_
  rintro ⟨⟨(n : Int), (d : Int)⟩, ⟨(m : Int), (e : Int)⟩, ⟨⟩⟩ hl _
  repeat' (first | with_reducible apply andAll_cons | with_reducible apply andAll_nil | (with_reducible apply Cf.mk; kernel_rfl) | apply And.intro | intro _ | exact True.intro | apply Lf.mk)
  all_goals first | assumption | skip
  all_goals (try change @Eq Bool _ _)
  all_goals (simp_all [risingRt, cmp_less])

theorem ok_spec_faNear : GSpec Try.prog s_spec_faNear := by
  refine fn_known tab_ok fol Known.nil (by decide) Try.func46 ?_
  rintro ⟨⟨(n : Int), (d : Int)⟩, ⟨(m : Int), (e : Int)⟩, ⟨⟩⟩ hl ⟨h1, h2, _⟩
  have b1 := ratmul h1 h2
  have b2 := ratmul h2 h1
  dsimp only at b1 b2
  repeat' (first | with_reducible apply andAll_cons | with_reducible apply andAll_nil | (with_reducible apply Cf.mk; kernel_rfl) | apply And.intro | intro _ | exact True.intro | apply Lf.mk)
  all_goals first | omega | rfl

theorem rising_good {a b : Rt} (h : risingRt a b = true) : goodRt a = true ∧ goodRt b = true := by
  simp only [risingRt, Bool.and_eq_true] at h
  exact h.1

theorem ok_spec_AreNeighbours : GSpec Try.prog s_spec_AreNeighbours := by
  refine fn_known tab_ok fol ((Known.nil.cons ok_spec_faRising (by kernel_rfl)).cons ok_spec_faNear (by kernel_rfl)) (by decide) Try.func14 ?_
  rintro ⟨⟨(n : Int), (d : Int)⟩, ⟨(m : Int), (e : Int)⟩, ⟨⟩⟩ hl _
  repeat' (first | with_reducible apply andAll_cons | with_reducible apply andAll_nil | (with_reducible apply Cf.mk; kernel_rfl) | apply And.intro | intro _ | exact True.intro | apply Lf.mk)
  all_goals simp only [Bool.not_eq_true', Bool.not_eq_false'] at *
  all_goals first | exact (rising_good (by assumption)).1 | exact (rising_good (by assumption)).2 | skip
  all_goals (try change @Eq Bool _ _)
  all_goals simp_all

theorem ok_impl_AreNeighbours : GSpec Try.prog s_impl_AreNeighbours := by
  refine fn_known tab_ok fol ((Known.nil.cons ok_impl_areRats (by kernel_rfl)).cons ok_impl_less (by kernel_rfl)) (by decide) Try.func13 ?_
  rintro ⟨⟨(n : Int), (d : Int)⟩, ⟨(m : Int), (e : Int)⟩, ⟨⟩⟩ hl _
  by_cases h1 : goodRt ⟨n, d⟩ = true <;> by_cases h2 : goodRt ⟨m, e⟩ = true
  · have b1 := ratmul h1 h2
    have b2 := ratmul h2 h1
    dsimp only at b1 b2
    repeat' (first | with_reducible apply andAll_cons | with_reducible apply andAll_nil | (with_reducible apply Cf.mk; kernel_rfl) | apply And.intro | intro _ | exact True.intro | apply Lf.mk)
    all_goals first | omega | assumption | skip
    all_goals (try change @Eq Bool _ _)
    all_goals (simp_all [risingRt, nearRt])
    all_goals rfl
  all_goals
    repeat' (first | with_reducible apply andAll_cons | with_reducible apply andAll_nil | (with_reducible apply Cf.mk; kernel_rfl) | apply And.intro | intro _ | exact True.intro | apply Lf.mk)
    all_goals (try change @Eq Bool _ _)
    all_goals (simp_all [risingRt, nearRt])
end Go.Vx
