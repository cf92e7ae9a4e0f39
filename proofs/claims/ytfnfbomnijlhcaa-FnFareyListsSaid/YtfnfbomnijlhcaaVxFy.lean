/- The law's own functions. -/
import Derived.Test.YtfnfbomnijlhcaaVpFy
import Derived.Test.YtfnfbomnijlhcaaVxDw
namespace Go.Vx
open Go Go.Proofs
set_option maxRecDepth 100000
set_option linter.unusedSimpArgs false
set_option linter.unusedVariables false

theorem rt_of_eq {a b : Rt} (h : eqRt a b = true) : a = b := of_decide_eq_true h
noncomputable def s_laws_qAbs : Sig := ⟨24, [.val NI], [.val NI], fun ((n : Int), _) => ⟨[-9223372036854775808 < n, n ≤ 9223372036854775807], ((n.natAbs : Int), ()), ()⟩⟩
theorem ok_laws_qAbs : GSpec Try.prog s_laws_qAbs := by
  refine fn_known tab_ok fol Known.nil (by decide) Try.func24 ?_
  rintro ⟨(n : Int), ⟨⟩⟩ hl ⟨h1, h2, _⟩
  repeat' (first | with_reducible apply andAll_cons | with_reducible apply andAll_nil | (with_reducible apply Cf.mk; kernel_rfl) | apply And.intro | intro _ | exact True.intro | apply Lf.mk)
  all_goals (try simp only [Bool.not_eq_true', Bool.not_eq_false', Bool.not_not, decide_eq_true_eq, decide_eq_false_iff_not, beq_iff_eq, bne_iff_ne, beq_eq_false_iff_ne, bne_eq_false_iff_eq, ne_eq, Bool.and_eq_true, Bool.and_eq_false_iff, Bool.or_eq_true, Bool.or_eq_false_iff, Int.toNat_natCast, Nat.zero_add, Int.ofNat_lt, Int.ofNat_le, List.length_cons, List.length_nil, List.drop_zero, List.take_length] at *)
  all_goals first | omega | (show (_ : Int) = _; omega) | trace_state
noncomputable def s_laws_qUp : Sig := ⟨22, [.val .rat, .val .rat], [.val NI], fun ((a : Rt), (b : Rt), _) => ⟨[goodRt a = true, goodRt b = true], (cmpRt a b, ()), ()⟩⟩
theorem ok_laws_qUp : GSpec Try.prog s_laws_qUp := by
  refine fn_known tab_ok fol Known.nil (by decide) Try.func22 ?_
  rintro ⟨⟨(n : Int), (d : Int)⟩, ⟨(m : Int), (e : Int)⟩, ⟨⟩⟩ hl ⟨h1, h2, _⟩
  have b1 := ratmul h1 h2
  have b2 := ratmul h2 h1
  dsimp only at b1 b2
  repeat' (first | with_reducible apply andAll_cons | with_reducible apply andAll_nil | (with_reducible apply Cf.mk; kernel_rfl) | apply And.intro | intro _ | exact True.intro | apply Lf.mk)
  all_goals (try simp only [Bool.not_eq_true', Bool.not_eq_false', Bool.not_not, decide_eq_true_eq, decide_eq_false_iff_not, beq_iff_eq, bne_iff_ne, beq_eq_false_iff_ne, bne_eq_false_iff_eq, ne_eq, Bool.and_eq_true, Bool.and_eq_false_iff, Bool.or_eq_true, Bool.or_eq_false_iff, Int.toNat_natCast, Nat.zero_add, Int.ofNat_lt, Int.ofNat_le, List.length_cons, List.length_nil, List.drop_zero, List.take_length] at *)
  all_goals first | omega | (unfold cmpRt sgn; dsimp only; split <;> first | rfl | omega | (split <;> first | rfl | omega)) | trace_state
noncomputable def s_laws_qRats : Sig := ⟨21, [.list .rat, .list .rat], [.val .bool], fun ((a : List Rt), (b : List Rt), _) => ⟨[], (decide (a = b), ()), ()⟩⟩
theorem ok_laws_qRats : GSpec Try.prog s_laws_qRats := by
  refine fn_known tab_ok fol Known.nil (by decide) Try.func21 ?_
  rintro ⟨(a : List Rt), (b : List Rt), ⟨⟩⟩ ⟨hl, hl', _⟩ _
  have hl : a.length ≤ 9223372036854775807 := hl
  repeat' (first | with_reducible apply andAll_cons | with_reducible apply andAll_nil | (with_reducible apply Cf.mk; kernel_rfl) | apply And.intro | intro _ | exact True.intro | apply Lf.mk)
  all_goals (try simp only [Bool.not_eq_true', Bool.not_eq_false', Bool.not_not, decide_eq_true_eq, decide_eq_false_iff_not, beq_iff_eq, bne_iff_ne, beq_eq_false_iff_ne, bne_eq_false_iff_eq, ne_eq, Bool.and_eq_true, Bool.and_eq_false_iff, Bool.or_eq_true, Bool.or_eq_false_iff, Int.toNat_natCast, Nat.zero_add, Int.ofNat_lt, Int.ofNat_le, List.length_cons, List.length_nil, List.drop_zero, List.take_length] at *)
  · rename_i h; change false = decide (a = b); symm; rw [decide_eq_false_iff_not]; intro h2; apply h; rw [h2]
  · rename_i h
    have h : a.length = b.length := by omega
    refine ⟨Nat, fun i => ⟨[(13, .sc (.num .i64 i))], [100000, 100001], []⟩, fun i => i ≤ a.length ∧ a.take i = b.take i, fun i => a.length - i, ⟨0, ?_, ?_⟩, ?_⟩
    · exact ⟨Nat.zero_le _, rfl⟩
    · repeat' (first | apply And.intro | exact True.intro | exact Lf.mk (by with_reducible rfl) | apply Lf.mk)
      all_goals rfl
    · rintro i ⟨g1, g2⟩
      repeat' (first | with_reducible apply andAll_cons | with_reducible apply andAll_nil | (with_reducible apply Cf.mk; kernel_rfl) | apply And.intro | intro _ | exact True.intro | apply Lf.mk)
      all_goals (try simp only [Bool.not_eq_true', Bool.not_eq_false', Bool.not_not, decide_eq_true_eq, decide_eq_false_iff_not, beq_iff_eq, bne_iff_ne, beq_eq_false_iff_ne, bne_eq_false_iff_eq, ne_eq, Bool.and_eq_true, Bool.and_eq_false_iff, Bool.or_eq_true, Bool.or_eq_false_iff, Int.toNat_natCast, Nat.zero_add, Int.ofNat_lt, Int.ofNat_le, List.length_cons, List.length_nil, List.drop_zero, List.take_length] at *)
      all_goals first | omega | skip
      · rename_i h3 h4; change false = decide (a = b); symm; rw [decide_eq_false_iff_not]; intro h2; rw [h2] at h4; simp [eqRt] at h4
      · rename_i h3 h4
        refine ⟨i + 1, ⟨by omega, take_eq_succ VK.rat.dflt a b i h3 (by omega) g2 (rt_of_eq (by simpa using h4))⟩, by omega, ?_⟩
        repeat' (first | apply And.intro | exact True.intro | exact Lf.mk (by with_reducible rfl) | apply Lf.mk)
        all_goals rfl
      · rename_i h3; change true = decide (a = b); symm; rw [decide_eq_true_eq]; exact eq_of_take h h3 g2
noncomputable def s_laws_qHasRat : Sig := ⟨23, [.list .rat, .val .rat], [.val .bool], fun ((l : List Rt), (x : Rt), _) => ⟨[], (l.any fun y => eqRt x y, ()), ()⟩⟩
theorem ok_laws_qHasRat : GSpec Try.prog s_laws_qHasRat := by
  refine fn_known tab_ok fol Known.nil (by decide) Try.func23 ?_
  rintro ⟨(l : List Rt), ⟨(n : Int), (d : Int)⟩, ⟨⟩⟩ ⟨hl, _⟩ _
  have hl : l.length ≤ 9223372036854775807 := hl
  repeat' (first | with_reducible apply andAll_cons | with_reducible apply andAll_nil | (with_reducible apply Cf.mk; kernel_rfl) | apply And.intro | intro _ | exact True.intro | apply Lf.mk)
  refine ⟨Nat, fun i => ⟨[(7, .sc (.vw 100000 0 l.length)), (8, .sc (.num .i64 l.length)), (9, .sc (.num .i64 i)), (3, .sc (.ref 3 0))], [100000, 3], []⟩, fun i => i ≤ l.length ∧ (l.take i).any (fun y => eqRt ⟨n, d⟩ y) = false, fun i => l.length - i, ⟨0, ?_, ?_⟩, ?_⟩
  · exact ⟨Nat.zero_le _, by simp⟩
  · repeat' (first | apply And.intro | exact True.intro | exact Lf.mk (by with_reducible rfl) | apply Lf.mk)
    all_goals rfl
  · rintro i ⟨g1, g2⟩
    repeat' (first | with_reducible apply andAll_cons | with_reducible apply andAll_nil | (with_reducible apply Cf.mk; kernel_rfl) | apply And.intro | intro _ | exact True.intro | apply Lf.mk)
    all_goals (try simp only [Bool.not_eq_true', Bool.not_eq_false', Bool.not_not, decide_eq_true_eq, decide_eq_false_iff_not, beq_iff_eq, bne_iff_ne, beq_eq_false_iff_ne, bne_eq_false_iff_eq, ne_eq, Bool.and_eq_true, Bool.and_eq_false_iff, Bool.or_eq_true, Bool.or_eq_false_iff, Int.toNat_natCast, Nat.zero_add, Int.ofNat_lt, Int.ofNat_le, List.length_cons, List.length_nil, List.drop_zero, List.take_length] at *)
    all_goals first | omega | skip
    · rename_i h3 h4
      change true = _
      exact (List.any_eq_true.2 ⟨_, getA_mem VK.rat.dflt h3, h4⟩).symm
    · refine ⟨i + 1, ⟨by omega, take_all_false VK.rat.dflt (by assumption) g2 (by assumption)⟩, by omega, ?_⟩
      repeat' (first | apply And.intro | exact True.intro | exact Lf.mk (by with_reducible rfl) | apply Lf.mk)
      all_goals (rw [Int.natCast_add]; rfl)
    · rename_i h3
      rw [List.take_of_length_le (by omega)] at g2
      exact g2.symm
end Go.Vx
