/- Maps that are turned by half a turn: the reference's functions; lists of points compared. -/
import Derived.Test.YtlknhfldkkjclaaVpRf
import Derived.Test.YtlknhfldkkjclaaVxCm
namespace Go.Vx
open Go Go.Proofs
set_option maxRecDepth 100000
set_option linter.unusedSimpArgs false
set_option linter.unusedVariables false

noncomputable def s_impl_opposite : Sig := ⟨79, [.val .rat], [.val .rat], fun ((x : Rt), _) => ⟨[coordRt x = true], (mirR x, ()), ()⟩⟩
theorem ok_impl_opposite : GSpec Try.prog s_impl_opposite := by
  refine fn_known tab_ok fol Known.nil (by decide) Try.func79 ?_
  rintro ⟨⟨(n : Int), (d : Int)⟩, ⟨⟩⟩ - ⟨h1, _⟩
  have h1 := coord_iff.1 h1
  dsimp only at h1
  repeat' (first | with_reducible apply andAll_cons | with_reducible apply andAll_nil | (with_reducible apply Cf.mk; kernel_rfl) | apply And.intro | intro _ | exact True.intro | apply Lf.mk)
  all_goals first | omega | rfl | trace_state
noncomputable def s_spec_imMirror : Sig := ⟨73, [.val .rat], [.val .rat], fun ((x : Rt), _) => ⟨[coordRt x = true], (mirR x, ()), ()⟩⟩
theorem ok_spec_imMirror : GSpec Try.prog s_spec_imMirror := by
  refine fn_known tab_ok fol Known.nil (by decide) Try.func73 ?_
  rintro ⟨⟨(n : Int), (d : Int)⟩, ⟨⟩⟩ - ⟨h1, _⟩
  have h1 := coord_iff.1 h1
  dsimp only at h1
  repeat' (first | with_reducible apply andAll_cons | with_reducible apply andAll_nil | (with_reducible apply Cf.mk; kernel_rfl) | apply And.intro | intro _ | exact True.intro | apply Lf.mk)
  all_goals first | omega | rfl | trace_state
theorem eqPt_t {a b : Pt} (h : eqPt a b = true) : a = b := by simpa [eqPt] using h
theorem eqPt_f {a b : Pt} (h : eqPt a b = false) : a ≠ b := by simpa [eqPt] using h
noncomputable def s_spec_cjSame : Sig := ⟨33, [.list .pt, .list .pt], [.val .bool], fun ((a : List Pt), (b : List Pt), _) => ⟨[], (decide (a = b), ()), ()⟩⟩
theorem ok_spec_cjSame : GSpec Try.prog s_spec_cjSame := by
  refine fn_known tab_ok fol Known.nil (by decide) Try.func33 ?_
  rintro ⟨(a : List Pt), (b : List Pt), ⟨⟩⟩ ⟨hl, hl', _⟩ _
  have hl : a.length ≤ 9223372036854775807 := hl
  repeat' (first | with_reducible apply andAll_cons | with_reducible apply andAll_nil | (with_reducible apply Cf.mk; kernel_rfl) | apply And.intro | intro _ | exact True.intro | apply Lf.mk)
  all_goals (try simp only [Bool.not_eq_true', Bool.not_eq_false', Bool.not_not, decide_eq_true_eq, decide_eq_false_iff_not, beq_iff_eq, bne_iff_ne, beq_eq_false_iff_ne, bne_eq_false_iff_eq, ne_eq, Bool.and_eq_true, Bool.and_eq_false_iff, Bool.or_eq_true, Bool.or_eq_false_iff, Int.toNat_natCast, Nat.zero_add, Int.ofNat_lt, Int.ofNat_le, List.length_cons, List.length_nil, List.drop_zero, List.take_length] at *)
  · rename_i h; change false = decide (a = b); symm; rw [decide_eq_false_iff_not]; intro h2; apply h; rw [h2]
  · rename_i h
    have h : a.length = b.length := by omega
    refine ⟨Nat, fun i => ⟨[(14, .sc (.num .i64 i))], [100000, 100001], []⟩, fun i => i ≤ a.length ∧ a.take i = b.take i, fun i => a.length - i, ⟨0, ?_, ?_⟩, ?_⟩
    · exact ⟨Nat.zero_le _, rfl⟩
    · repeat' (first | apply And.intro | exact True.intro | exact Lf.mk (by with_reducible rfl) | apply Lf.mk)
      all_goals rfl
    · rintro i ⟨g1, g2⟩
      repeat' (first | with_reducible apply andAll_cons | with_reducible apply andAll_nil | (with_reducible apply Cf.mk; kernel_rfl) | apply And.intro | intro _ | exact True.intro | apply Lf.mk)
      all_goals (try simp only [Bool.not_eq_true', Bool.not_eq_false', Bool.not_not, decide_eq_true_eq, decide_eq_false_iff_not, beq_iff_eq, bne_iff_ne, beq_eq_false_iff_ne, bne_eq_false_iff_eq, ne_eq, Bool.and_eq_true, Bool.and_eq_false_iff, Bool.or_eq_true, Bool.or_eq_false_iff, Int.toNat_natCast, Nat.zero_add, Int.ofNat_lt, Int.ofNat_le, List.length_cons, List.length_nil, List.drop_zero, List.take_length] at *)
      all_goals first | omega | skip
      · rename_i h3 h4; change false = decide (a = b); symm; rw [decide_eq_false_iff_not]; intro h2; apply eqPt_f h4; rw [h2]
      · rename_i h3 h4
        refine ⟨i + 1, ⟨by omega, take_eq_succ VK.pt.dflt a b i h3 (by omega) g2 (eqPt_t h4)⟩, by omega, ?_⟩
        repeat' (first | apply And.intro | exact True.intro | exact Lf.mk (by with_reducible rfl) | apply Lf.mk)
        all_goals rfl
      · rename_i h3; change true = decide (a = b); symm; rw [decide_eq_true_eq]; exact eq_of_take h h3 g2
noncomputable def s_lib_EqualPoint : Sig := ⟨38, [.list .pt, .list .pt], [.val .bool], fun ((a : List Pt), (b : List Pt), _) => ⟨[], (decide (a = b), ()), ()⟩⟩
theorem ok_lib_EqualPoint : GSpec Try.prog s_lib_EqualPoint := by
  refine fn_known tab_ok fol Known.nil (by decide) Try.func38 ?_
  rintro ⟨(a : List Pt), (b : List Pt), ⟨⟩⟩ ⟨hl, hl', _⟩ _
  have hl : a.length ≤ 9223372036854775807 := hl
  repeat' (first | with_reducible apply andAll_cons | with_reducible apply andAll_nil | (with_reducible apply Cf.mk; kernel_rfl) | apply And.intro | intro _ | exact True.intro | apply Lf.mk)
  all_goals (try simp only [Bool.not_eq_true', Bool.not_eq_false', Bool.not_not, decide_eq_true_eq, decide_eq_false_iff_not, beq_iff_eq, bne_iff_ne, beq_eq_false_iff_ne, bne_eq_false_iff_eq, ne_eq, Bool.and_eq_true, Bool.and_eq_false_iff, Bool.or_eq_true, Bool.or_eq_false_iff, Int.toNat_natCast, Nat.zero_add, Int.ofNat_lt, Int.ofNat_le, List.length_cons, List.length_nil, List.drop_zero, List.take_length] at *)
  · rename_i h; change false = decide (a = b); symm; rw [decide_eq_false_iff_not]; intro h2; apply h; rw [h2]
  · rename_i h
    have h : a.length = b.length := by omega
    refine ⟨Nat, fun i => ⟨[(13, .sc (.num .i64 i))], [100000, 100001], []⟩, fun i => i ≤ a.length ∧ a.take i = b.take i, fun i => a.length - i, ⟨0, ?_, ?_⟩, ?_⟩
    · exact ⟨Nat.zero_le _, rfl⟩
    · repeat' (first | apply And.intro | exact True.intro | exact Lf.mk (by with_reducible rfl) | apply Lf.mk)
      all_goals rfl
    · rintro i ⟨g1, g2⟩
      repeat' (first | with_reducible apply andAll_cons | with_reducible apply andAll_nil | (with_reducible apply Cf.mk; kernel_rfl) | apply And.intro | intro _ | exact True.intro | apply Lf.mk)
      all_goals (try simp only [Bool.not_eq_true', Bool.not_eq_false', Bool.not_not, decide_eq_true_eq, decide_eq_false_iff_not, beq_iff_eq, bne_iff_ne, beq_eq_false_iff_ne, bne_eq_false_iff_eq, ne_eq, Bool.and_eq_true, Bool.and_eq_false_iff, Bool.or_eq_true, Bool.or_eq_false_iff, Int.toNat_natCast, Nat.zero_add, Int.ofNat_lt, Int.ofNat_le, List.length_cons, List.length_nil, List.drop_zero, List.take_length] at *)
      all_goals first | omega | skip
      · rename_i h3 h4; change false = decide (a = b); symm; rw [decide_eq_false_iff_not]; intro h2; apply eqPt_f h4; rw [h2]
      · rename_i h3 h4
        refine ⟨i + 1, ⟨by omega, take_eq_succ VK.pt.dflt a b i h3 (by omega) g2 (eqPt_t h4)⟩, by omega, ?_⟩
        repeat' (first | apply And.intro | exact True.intro | exact Lf.mk (by with_reducible rfl) | apply Lf.mk)
        all_goals rfl
      · rename_i h3; change true = decide (a = b); symm; rw [decide_eq_true_eq]; exact eq_of_take h h3 g2
noncomputable def s_spec_ReflectMap : Sig := ⟨31, [.list .pt], [.list 57 .pt, .val .bool], fun ((f : List Pt), _) => ⟨[], ((rfM f).1, (rfM f).2, ()), ()⟩⟩
theorem ok_spec_ReflectMap : GSpec Try.prog s_spec_ReflectMap := by
  refine fn_known tab_ok fol ((Known.nil.cons ok_spec_imGood (by kernel_rfl)).cons ok_spec_imMirror (by kernel_rfl)) (by decide) Try.func31 ?_
  rintro ⟨(f : List Pt), ⟨⟩⟩ ⟨hl, _⟩ _
  have hl : f.length ≤ 9223372036854775807 := hl
  cases hm : mapOk f
  · have hr := rfM_f hm
    repeat' (first | with_reducible apply andAll_cons | with_reducible apply andAll_nil | (with_reducible apply Cf.mk; kernel_rfl) | apply And.intro | intro _ | exact True.intro | apply Lf.mk)
    all_goals first | (rw [hr]; done) | (rw [hr]; rfl) | (exact absurd ‹_› (by simp [hm])) | (simp_all; done) | trace_state
  · have hr := rfM_t hm
    have hn := map_len hm
    repeat' (first | with_reducible apply andAll_cons | with_reducible apply andAll_nil | (with_reducible apply Cf.mk; kernel_rfl) | apply And.intro | intro _ | exact True.intro | apply Lf.mk)
    all_goals (try simp only [Bool.not_eq_true', Bool.not_eq_false', Bool.not_not, decide_eq_true_eq, decide_eq_false_iff_not, beq_iff_eq, bne_iff_ne, beq_eq_false_iff_ne, bne_eq_false_iff_eq, ne_eq, Bool.and_eq_true, Bool.and_eq_false_iff, Bool.or_eq_true, Bool.or_eq_false_iff, Int.toNat_natCast, Nat.zero_add, Int.ofNat_lt, Int.ofNat_le, List.length_cons, List.length_nil, List.drop_zero, List.take_length] at *)
    all_goals first | omega | (simp_all; done) | skip
    refine ⟨Nat, fun k => ⟨[(5, .sc (.num .i64 ((f.length : Int) - 1 - k))), (4, .sc (.own 7777777))], [100000], [(7777777, .row 57 .pt (rfK f k))]⟩, fun k => k ≤ f.length, fun k => f.length - k, ⟨0, by omega, ?_⟩, ?_⟩
    · have e := rfK_zero f
      repeat' (first | apply And.intro | exact True.intro | exact Lf.mk (by with_reducible rfl) | apply Lf.mk)
      all_goals first | rfl | (rw [e]; rfl) | (rw [e]; done) | omega | trace_state
    · rintro k g1
      have q1 := rfK_len f g1
      repeat' (first | with_reducible apply andAll_cons | with_reducible apply andAll_nil | (with_reducible apply Cf.mk; kernel_rfl) | apply And.intro | intro _ | exact True.intro | apply Lf.mk)
      all_goals (try simp only [Bool.not_eq_true', Bool.not_eq_false', Bool.not_not, decide_eq_true_eq, decide_eq_false_iff_not, beq_iff_eq, bne_iff_ne, beq_eq_false_iff_ne, bne_eq_false_iff_eq, ne_eq, Bool.and_eq_true, Bool.and_eq_false_iff, Bool.or_eq_true, Bool.or_eq_false_iff, Int.toNat_natCast, Nat.zero_add, Int.ofNat_lt, Int.ofNat_le, List.length_cons, List.length_nil, List.drop_zero, List.take_length] at *)
      all_goals first
        | omega
        | (rename_i hk
           have hk2 : k < f.length := by omega
           have e1 : ((f.length : Int) - 1 - k).toNat = f.length - 1 - k := by omega
           have hp := map_pt hm (i := f.length - 1 - k) (by omega)
           have q2 := rfK_succ f hk2
           simp only [e1] at *
           first
             | exact (ptOk_iff.1 hp).1
             | exact (ptOk_iff.1 hp).2
             | (rw [q1]; omega)
             | (show (_ + 1) * 32 ≤ 140737488355328; omega)
             | (refine ⟨k + 1, by omega, by omega, ?_⟩
                repeat' (first | apply And.intro | exact True.intro | exact Lf.mk (by with_reducible rfl) | apply Lf.mk)
                all_goals first | rfl | exact q2.symm | omega | trace_state))
        | (rename_i hk
           have hk2 : k = f.length := by omega
           rw [hk2, rfK_all, hr]; done)
        | (rw [hr]; done)
        | trace_state
end Go.Vx
