/- The laws' own functions: numbers, lists of numbers and of fractions. -/
import Derived.Test.YtfnfbomnijlhcaaDoorVxF
import Derived.Test.YtfnfbomnijlhcaaDoorVxU
import Derived.Test.YtfnfbomnijlhcaaDoorVxL
namespace Go.Vx
open Go Go.Proofs
set_option maxRecDepth 100000
set_option linter.unusedSimpArgs false
set_option linter.unusedVariables false

theorem rt_of_eq {a b : Rt} (h : eqRt a b = true) : a = b := of_decide_eq_true h
noncomputable def s_laws_qAbs : Sig := ⟨21, [.val NI], [.val NI], fun ((n : Int), _) => ⟨[-9223372036854775808 < n, n ≤ 9223372036854775807], ((n.natAbs : Int), ()), ()⟩⟩
theorem ok_laws_qAbs : GSpec Tryd.prog s_laws_qAbs := by
  refine fn_known tab_ok fol Known.nil (by decide) Tryd.func21 ?_
  rintro ⟨(n : Int), ⟨⟩⟩ hl ⟨h1, h2, _⟩
  repeat' (first | with_reducible apply andAll_cons | with_reducible apply andAll_nil | (with_reducible apply Cf.mk; kernel_rfl) | apply And.intro | intro _ | exact True.intro | apply Lf.mk)
  all_goals (try simp only [Bool.not_eq_true', Bool.not_eq_false', Bool.not_not, decide_eq_true_eq, decide_eq_false_iff_not, beq_iff_eq, bne_iff_ne, beq_eq_false_iff_ne, bne_eq_false_iff_eq, ne_eq, Bool.and_eq_true, Bool.and_eq_false_iff, Bool.or_eq_true, Bool.or_eq_false_iff, Int.toNat_natCast, Nat.zero_add, Int.ofNat_lt, Int.ofNat_le, List.length_cons, List.length_nil, List.drop_zero, List.take_length] at *)
  all_goals first | omega | (show (_ : Int) = _; omega) | trace_state
noncomputable def s_laws_qRats : Sig := ⟨20, [.list .rat, .list .rat], [.val .bool], fun ((a : List Rt), (b : List Rt), _) => ⟨[], (decide (a = b), ()), ()⟩⟩
theorem ok_laws_qRats : GSpec Tryd.prog s_laws_qRats := by
  refine fn_known tab_ok fol Known.nil (by decide) Tryd.func20 ?_
  rintro ⟨(a : List Rt), (b : List Rt), ⟨⟩⟩ ⟨hl, hl', _⟩ _
  have hl : a.length ≤ 9223372036854775807 := hl
  repeat' (first | with_reducible apply andAll_cons | with_reducible apply andAll_nil | (with_reducible apply Cf.mk; kernel_rfl) | apply And.intro | intro _ | exact True.intro | apply Lf.mk)
  all_goals (try simp only [Bool.not_eq_true', Bool.not_eq_false', Bool.not_not, decide_eq_true_eq, decide_eq_false_iff_not, beq_iff_eq, bne_iff_ne, beq_eq_false_iff_ne, bne_eq_false_iff_eq, ne_eq, Bool.and_eq_true, Bool.and_eq_false_iff, Bool.or_eq_true, Bool.or_eq_false_iff, Int.toNat_natCast, Nat.zero_add, Int.ofNat_lt, Int.ofNat_le, List.length_cons, List.length_nil, List.drop_zero, List.take_length] at *)
  · rename_i h; change false = decide (a = b); symm; rw [decide_eq_false_iff_not]; intro h2; apply h; rw [h2]
  · rename_i h
    have h : a.length = b.length := by omega
    refine ⟨Nat, fun i => ⟨[(13, .sc (.num .i64 i))], [100000, 100001], []⟩, fun i => i ≤ a.length ∧ a.take i = b.take i, fun i => a.length - i, ⟨0, ?_, ?_⟩, ?_⟩
    · exact ⟨Nat.zero_le _, rfl⟩
    · repeat' (first | apply And.intro | exact True.intro | exact Lf.mk (by with_reducible rfl) | apply Lf.mk)
      all_goals rfl
    · rintro i ⟨g1, g2⟩
      repeat' (first | with_reducible apply andAll_cons | with_reducible apply andAll_nil | (with_reducible apply Cf.mk; kernel_rfl) | apply And.intro | intro _ | exact True.intro | apply Lf.mk)
      all_goals (try simp only [Bool.not_eq_true', Bool.not_eq_false', Bool.not_not, decide_eq_true_eq, decide_eq_false_iff_not, beq_iff_eq, bne_iff_ne, beq_eq_false_iff_ne, bne_eq_false_iff_eq, ne_eq, Bool.and_eq_true, Bool.and_eq_false_iff, Bool.or_eq_true, Bool.or_eq_false_iff, Int.toNat_natCast, Nat.zero_add, Int.ofNat_lt, Int.ofNat_le, List.length_cons, List.length_nil, List.drop_zero, List.take_length] at *)
      all_goals first | omega | skip
      · rename_i h3 h4; change false = decide (a = b); symm; rw [decide_eq_false_iff_not]; intro h2; rw [h2] at h4; simp [eqRt] at h4
      · rename_i h3 h4
        refine ⟨i + 1, ⟨by omega, take_eq_succ VK.rat.dflt a b i h3 (by omega) g2 (rt_of_eq (by simpa using h4))⟩, by omega, ?_⟩
        repeat' (first | apply And.intro | exact True.intro | exact Lf.mk (by with_reducible rfl) | apply Lf.mk)
        all_goals rfl
      · rename_i h3; change true = decide (a = b); symm; rw [decide_eq_true_eq]; exact eq_of_take h h3 g2
noncomputable def s_laws_qInts : Sig := ⟨19, [.list NI, .list NI], [.val .bool], fun ((a : List Int), (b : List Int), _) => ⟨[], (decide (a = b), ()), ()⟩⟩
theorem ok_laws_qInts : GSpec Tryd.prog s_laws_qInts := by
  refine fn_known tab_ok fol Known.nil (by decide) Tryd.func19 ?_
  rintro ⟨(a : List Int), (b : List Int), ⟨⟩⟩ ⟨hl, hl', _⟩ _
  have hl : a.length ≤ 9223372036854775807 := hl
  repeat' (first | with_reducible apply andAll_cons | with_reducible apply andAll_nil | (with_reducible apply Cf.mk; kernel_rfl) | apply And.intro | intro _ | exact True.intro | apply Lf.mk)
  all_goals (try simp only [Bool.not_eq_true', Bool.not_eq_false', Bool.not_not, decide_eq_true_eq, decide_eq_false_iff_not, beq_iff_eq, bne_iff_ne, beq_eq_false_iff_ne, bne_eq_false_iff_eq, ne_eq, Bool.and_eq_true, Bool.and_eq_false_iff, Bool.or_eq_true, Bool.or_eq_false_iff, Int.toNat_natCast, Nat.zero_add, Int.ofNat_lt, Int.ofNat_le, List.length_cons, List.length_nil, List.drop_zero, List.take_length] at *)
  · rename_i h; change false = decide (a = b); symm; rw [decide_eq_false_iff_not]; intro h2; apply h; rw [h2]
  · rename_i h
    have h : a.length = b.length := by omega
    refine ⟨Nat, fun i => ⟨[(13, .sc (.num .i64 i))], [100000, 100001], []⟩, fun i => i ≤ a.length ∧ a.take i = b.take i, fun i => a.length - i, ⟨0, ?_, ?_⟩, ?_⟩
    · exact ⟨Nat.zero_le _, rfl⟩
    · repeat' (first | apply And.intro | exact True.intro | exact Lf.mk (by with_reducible rfl) | apply Lf.mk)
      all_goals rfl
    · rintro i ⟨g1, g2⟩
      repeat' (first | with_reducible apply andAll_cons | with_reducible apply andAll_nil | (with_reducible apply Cf.mk; kernel_rfl) | apply And.intro | intro _ | exact True.intro | apply Lf.mk)
      all_goals (try simp only [Bool.not_eq_true', Bool.not_eq_false', Bool.not_not, decide_eq_true_eq, decide_eq_false_iff_not, beq_iff_eq, bne_iff_ne, beq_eq_false_iff_ne, bne_eq_false_iff_eq, ne_eq, Bool.and_eq_true, Bool.and_eq_false_iff, Bool.or_eq_true, Bool.or_eq_false_iff, Int.toNat_natCast, Nat.zero_add, Int.ofNat_lt, Int.ofNat_le, List.length_cons, List.length_nil, List.drop_zero, List.take_length] at *)
      all_goals first | omega | skip
      · rename_i h3 h4; change false = decide (a = b); symm; rw [decide_eq_false_iff_not]; intro h2; rw [h2] at h4; simp at h4
      · rename_i h3 h4
        refine ⟨i + 1, ⟨by omega, take_eq_succ NI.dflt a b i h3 (by omega) g2 (by simpa using h4)⟩, by omega, ?_⟩
        repeat' (first | apply And.intro | exact True.intro | exact Lf.mk (by with_reducible rfl) | apply Lf.mk)
        all_goals rfl
      · rename_i h3; change true = decide (a = b); symm; rw [decide_eq_true_eq]; exact eq_of_take h h3 g2
end Go.Vx
