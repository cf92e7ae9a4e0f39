/- A walker down the tree of fractions: the program's methods; the path to a fraction: the reference's function. -/
import Derived.Test.YtfnfbomnijlhcaaDoorVxC
import Derived.Test.YtfnfbomnijlhcaaDoorVxF
import Derived.Test.YtfnfbomnijlhcaaDoorVpPa
namespace Go.Vx
open Go Go.Proofs
set_option maxRecDepth 100000
set_option linter.unusedSimpArgs false
set_option linter.unusedVariables false

abbrev wkT : Nat := 83
noncomputable def s_walker_here : Sig := ⟨33, [.cell wkT .pt], [.val .rat], fun ((p : Pt), _) => ⟨[smallP p], (hereP p, ()), (p, ())⟩⟩
theorem ok_walker_here : GSpec Tryd.prog s_walker_here := by
  refine fn_known tab_ok fol Known.nil (by decide) Tryd.func33 ?_
  rintro ⟨⟨⟨(a : Int), (b : Int)⟩, ⟨(c : Int), (d : Int)⟩⟩, ⟨⟩⟩ - ⟨h1, _⟩
  unfold smallP at h1
  dsimp only at h1
  repeat' (first | with_reducible apply andAll_cons | with_reducible apply andAll_nil | (with_reducible apply Cf.mk; kernel_rfl) | apply And.intro | intro _ | exact True.intro | apply Lf.mk)
  all_goals first | omega | rfl | trace_state
noncomputable def s_walker_turn : Sig := ⟨37, [.cell wkT .pt, .val .bool], [], fun ((p : Pt), (l : Bool), _) => ⟨[smallP p], (), (turnP p l, ())⟩⟩
theorem ok_walker_turn : GSpec Tryd.prog s_walker_turn := by
  refine fn_known tab_ok fol (Known.nil.cons ok_walker_here (by kernel_rfl)) (by decide) Tryd.func37 ?_
  rintro ⟨⟨⟨(a : Int), (b : Int)⟩, ⟨(c : Int), (d : Int)⟩⟩, (l : Bool), ⟨⟩⟩ - ⟨h1, _⟩
  repeat' (first | with_reducible apply andAll_cons | with_reducible apply andAll_nil | (with_reducible apply Cf.mk; kernel_rfl) | apply And.intro | intro _ | exact True.intro | apply Lf.mk)
  all_goals first | exact h1 | rfl | (simp [turnP, hereP, *]; done) | trace_state
noncomputable def s_spec_PathTo : Sig := ⟨7, [.val .rat], [.val .str, .val .bool], fun ((x : Rt), _) => ⟨[], (bA (ptRes x).1, (ptRes x).2, ()), ()⟩⟩
theorem ok_spec_PathTo : GSpec Tryd.prog s_spec_PathTo := by
  refine fn_known tab_ok fol (Known.nil.cons ok_spec_raGood (by kernel_rfl)) (by decide) Tryd.func7 ?_
  rintro ⟨⟨(n : Int), (d : Int)⟩, ⟨⟩⟩ - -
  have e0 := bA_nil
  repeat' (first | with_reducible apply andAll_cons | with_reducible apply andAll_nil | (with_reducible apply Cf.mk; kernel_rfl) | apply And.intro | intro _ | exact True.intro | apply Lf.mk)
  all_goals (try simp only [Bool.not_eq_true', Bool.not_eq_false', Bool.not_not, decide_eq_true_eq, decide_eq_false_iff_not, beq_iff_eq, bne_iff_ne, beq_eq_false_iff_ne, bne_eq_false_iff_eq, ne_eq, Bool.and_eq_true, Bool.and_eq_false_iff, Bool.or_eq_true, Bool.or_eq_false_iff, Int.toNat_natCast, Nat.zero_add, Int.ofNat_lt, Int.ofNat_le, List.length_cons, List.length_nil, List.drop_zero, List.take_length] at *)
  all_goals first | (rw [ptRes_f1 (by assumption)]; exact e0.symm) | (rw [ptRes_f1 (by assumption)]; done) | (rw [ptRes_f2 (show ¬ 0 < n by omega)]; exact e0.symm) | (rw [ptRes_f2 (show ¬ 0 < n by omega)]; done) | skip
  rename_i h1 h2
  have hg := goodRt_iff.1 h1
  dsimp only at hg
  have hr : ptRes ⟨n, d⟩ = pthF 60 n d [] := ptRes_t h1 (show 0 < n by omega)
  refine ⟨Int × Int × List UInt8, fun x => ⟨[(4, .sc (.num .i64 x.1)), (5, .sc (.num .i64 x.2.1)), (6, .sc (.str (bA x.2.2)))], [], []⟩, fun x => (1 ≤ x.1 ∧ x.1 ≤ 1000000000) ∧ (1 ≤ x.2.1 ∧ x.2.1 ≤ 1000000000) ∧ x.2.2.length ≤ 60 ∧ pthF (60 - x.2.2.length) x.1 x.2.1 x.2.2 = pthF 60 n d [], fun x => 60 - x.2.2.length, ⟨(n, d, []), ⟨by dsimp only; omega, by dsimp only; omega, by simp, rfl⟩, ?_⟩, ?_⟩
  · repeat' (first | apply And.intro | exact True.intro | exact Lf.mk (by with_reducible rfl) | apply Lf.mk)
    all_goals first | rfl | exact e0.symm | exact e0 | trace_state
  · rintro ⟨a, b, l⟩ ⟨⟨k1, k2⟩, ⟨k3, k4⟩, k5, k6⟩
    dsimp only at k1 k2 k3 k4 k5 k6
    have z := bA_size l
    repeat' (first | with_reducible apply andAll_cons | with_reducible apply andAll_nil | (with_reducible apply Cf.mk; kernel_rfl) | apply And.intro | intro _ | exact True.intro | apply Lf.mk)
    all_goals (try simp only [Bool.not_eq_true', Bool.not_eq_false', Bool.not_not, decide_eq_true_eq, decide_eq_false_iff_not, beq_iff_eq, bne_iff_ne, beq_eq_false_iff_ne, bne_eq_false_iff_eq, ne_eq, Bool.and_eq_true, Bool.and_eq_false_iff, Bool.or_eq_true, Bool.or_eq_false_iff, Int.toNat_natCast, Nat.zero_add, Int.ofNat_lt, Int.ofNat_le, List.length_cons, List.length_nil, List.drop_zero, List.take_length] at *)
    all_goals first | omega | (show (bA l).size + 1 ≤ _; omega) | skip
    · rename_i q1 q2
      rw [show 60 - l.length = 0 by omega, pthF_out l q1] at k6
      rw [hr, ← k6]; exact e0.symm
    · rename_i q1 q2
      rw [show 60 - l.length = 0 by omega, pthF_out l q1] at k6
      rw [hr, ← k6]
    · rename_i q1 q2 q3
      have q4 := bA_app l 76
      have q5 : 60 - l.length = (60 - (l ++ [76]).length) + 1 := by simp; omega
      rw [q5, pthF_l _ l q1 q3] at k6
      refine ⟨(a, b - a, l ++ [76]), ⟨by dsimp only; omega, by dsimp only; omega, by simp; omega, k6⟩, by simp; omega, ?_⟩
      repeat' (first | apply And.intro | exact True.intro | exact Lf.mk (by with_reducible rfl) | apply Lf.mk)
      all_goals first | rfl | exact q4 | trace_state
    · rename_i q1 q2 q3
      have q4 := bA_app l 82
      have q5 : 60 - l.length = (60 - (l ++ [82]).length) + 1 := by simp; omega
      rw [q5, pthF_r _ l q1 q3] at k6
      refine ⟨(a - b, b, l ++ [82]), ⟨by dsimp only; omega, by dsimp only; omega, by simp; omega, k6⟩, by simp; omega, ?_⟩
      repeat' (first | apply And.intro | exact True.intro | exact Lf.mk (by with_reducible rfl) | apply Lf.mk)
      all_goals first | rfl | exact q4 | trace_state
    all_goals (rw [pthF_end _ l (by assumption)] at k6)
    all_goals (rw [hr, ← k6])
end Go.Vx
