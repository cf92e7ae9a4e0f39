/- Continued fractions: the program's functions and the reference's return the same. -/
import Derived.Test.YtfnfbomnijlhcaaDoorVxC
import Derived.Test.YtfnfbomnijlhcaaDoorVxL
import Derived.Test.YtfnfbomnijlhcaaDoorVpCf
namespace Go.Vx
open Go Go.Proofs
set_option maxRecDepth 100000
set_option linter.unusedSimpArgs false
set_option linter.unusedVariables false

noncomputable def s_impl_floorDivide : Sig := ⟨76, [.val NI, .val NI], [.val NI], fun ((a : Int), (b : Int), _) => ⟨[0 < b, -9223372036854775808 < a, a ≤ 9223372036854775807], (a / b, ()), ()⟩⟩
noncomputable def s_spec_raDown : Sig := ⟨77, [.val NI, .val NI], [.val NI], fun ((a : Int), (b : Int), _) => ⟨[0 ≤ b, -9223372036854775808 < a, a ≤ 9223372036854775807], (a / b, ()), ()⟩⟩

theorem ok_impl_floorDivide : GSpec Tryd.prog s_impl_floorDivide := by
  refine fn_known tab_ok fol Known.nil (by decide) Tryd.func76 ?_
  rintro ⟨(a : Int), (b : Int), ⟨⟩⟩ hl ⟨h1, h2, h3, _⟩
  have h4 := @tdiv_bd a b
  repeat' (first | with_reducible apply andAll_cons | with_reducible apply andAll_nil | (with_reducible apply Cf.mk; kernel_rfl) | apply And.intro | intro _ | exact True.intro | apply Lf.mk)
  all_goals (try simp only [Bool.not_eq_true', Bool.not_eq_false', Bool.not_not, decide_eq_true_eq, decide_eq_false_iff_not, beq_iff_eq, bne_iff_ne, beq_eq_false_iff_ne, bne_eq_false_iff_eq, ne_eq, Bool.and_eq_true, Bool.and_eq_false_iff, Bool.or_eq_true, Bool.or_eq_false_iff, Int.toNat_natCast, Nat.zero_add, Int.ofNat_lt, Int.ofNat_le, List.length_cons, List.length_nil, List.drop_zero, List.take_length] at *)
  all_goals first | omega | exact floor_lt h1 (by assumption) | exact floor_ge h1 (by assumption) | skip

theorem ok_spec_raDown : GSpec Tryd.prog s_spec_raDown := by
  refine fn_known tab_ok fol Known.nil (by decide) Tryd.func77 ?_
  rintro ⟨(a : Int), (b : Int), ⟨⟩⟩ hl ⟨h1, h2, h3, _⟩
  have h4 := @tdiv_bd a b
  repeat' (first | with_reducible apply andAll_cons | with_reducible apply andAll_nil | (with_reducible apply Cf.mk; kernel_rfl) | apply And.intro | intro _ | exact True.intro | apply Lf.mk)
  all_goals (try simp only [Bool.not_eq_true', Bool.not_eq_false', Bool.not_not, decide_eq_true_eq, decide_eq_false_iff_not, beq_iff_eq, bne_iff_ne, beq_eq_false_iff_ne, bne_eq_false_iff_eq, ne_eq, Bool.and_eq_true, Bool.and_eq_false_iff, Bool.or_eq_true, Bool.or_eq_false_iff, Int.toNat_natCast, Nat.zero_add, Int.ofNat_lt, Int.ofNat_le, List.length_cons, List.length_nil, List.drop_zero, List.take_length] at *)
  all_goals first | omega | exact floor_lt (by omega) (by assumption) | exact floor_ge (by omega) (by assumption) | simp_all; done | skip
  all_goals (have := @floor_lt a b (by omega) (by assumption))
  all_goals (have := @ediv_bd a b (by omega) 9223372036854775807 (by omega) (by omega) (by omega))
  all_goals omega

noncomputable def s_impl_continued : Sig := ⟨47, [.val .rat], [.list 3 NI], fun ((x : Rt), _) => ⟨[goodRt x = true], (cf x.num x.den, ()), ()⟩⟩
noncomputable def s_spec_faContinued : Sig := ⟨48, [.val .rat], [.list 3 NI], fun ((x : Rt), _) => ⟨[goodRt x = true], (cf x.num x.den, ()), ()⟩⟩

theorem ok_impl_continued : GSpec Tryd.prog s_impl_continued := by
  refine fn_known tab_ok fol (Known.nil.cons ok_impl_floorDivide (by kernel_rfl)) (by decide) Tryd.func47 ?_
  rintro ⟨⟨(n : Int), (d : Int)⟩, ⟨⟩⟩ hl ⟨h1, _⟩
  rw [goodRt_iff] at h1
  dsimp only at h1
  repeat' (first | with_reducible apply andAll_cons | with_reducible apply andAll_nil | (with_reducible apply Cf.mk; kernel_rfl) | apply And.intro | intro _ | exact True.intro | apply Lf.mk)
  refine ⟨List Int × Int × Int, fun x => ⟨[(3, .sc (.own 7777777)), (4, .sc (.num .i64 x.2.1)), (5, .sc (.num .i64 x.2.2))], [], [(7777777, .row 3 NI x.1)]⟩,
    fun x => x.1 ++ cf x.2.1 x.2.2 = cf n d ∧ 0 ≤ x.2.2 ∧ x.2.2 ≤ 1000000000 ∧ -1000000000 ≤ x.2.1 ∧ x.2.1 ≤ 1000000000, fun x => x.2.2.toNat, ⟨([], n, d), ?_, ?_⟩, ?_⟩
  · exact ⟨rfl, by dsimp only; omega, by dsimp only; omega, by dsimp only; omega, by dsimp only; omega⟩
  · repeat' (first | apply And.intro | exact True.intro | exact Lf.mk (by with_reducible rfl) | apply Lf.mk)
    all_goals rfl
  · rintro ⟨l, p, q⟩ ⟨g1, g2, g3, g4, g5⟩
    dsimp only at g1 g2 g3 g4 g5
    have e1 := ediv_mul p q
    have hlen : l.length ≤ 1000000001 := by
      have := congrArg List.length g1
      have := cf_length n d
      simp only [List.length_append] at *
      omega
    repeat' (first | with_reducible apply andAll_cons | with_reducible apply andAll_nil | (with_reducible apply Cf.mk; kernel_rfl) | apply And.intro | intro _ | exact True.intro | apply Lf.mk)
    all_goals (try simp only [Bool.not_eq_true', Bool.not_eq_false', Bool.not_not, decide_eq_true_eq, decide_eq_false_iff_not, beq_iff_eq, bne_iff_ne, beq_eq_false_iff_ne, bne_eq_false_iff_eq, ne_eq, Bool.and_eq_true, Bool.and_eq_false_iff, Bool.or_eq_true, Bool.or_eq_false_iff, Int.toNat_natCast, Nat.zero_add, Int.ofNat_lt, Int.ofNat_le, List.length_cons, List.length_nil, List.drop_zero, List.take_length] at *)
    all_goals (try have e2 := Int.emod_nonneg p (show q ≠ 0 by omega))
    all_goals (try have e3 := Int.emod_lt_of_pos p (show 0 < q by omega))
    all_goals first | omega | skip
    · refine ⟨(l ++ [p / q], q, p % q), ⟨?_, e2, by dsimp only; omega, by dsimp only; omega, by dsimp only; omega⟩, by dsimp only; omega, ?_⟩
      · dsimp only
        rw [List.append_assoc, List.singleton_append, ← cf_pos (by omega), g1]
      · repeat' (first | apply And.intro | exact True.intro | exact Lf.mk (by with_reducible rfl) | apply Lf.mk)
        all_goals (dsimp only; omega)
    · have h0 : q = 0 := by omega
      subst h0
      rw [cf_zero, List.append_nil] at g1
      exact g1

theorem ok_spec_faContinued : GSpec Tryd.prog s_spec_faContinued := by
  refine fn_known tab_ok fol (Known.nil.cons ok_spec_raDown (by kernel_rfl)) (by decide) Tryd.func48 ?_
  rintro ⟨⟨(n : Int), (d : Int)⟩, ⟨⟩⟩ hl ⟨h1, _⟩
  rw [goodRt_iff] at h1
  dsimp only at h1
  repeat' (first | with_reducible apply andAll_cons | with_reducible apply andAll_nil | (with_reducible apply Cf.mk; kernel_rfl) | apply And.intro | intro _ | exact True.intro | apply Lf.mk)
  refine ⟨List Int × Int × Int, fun x => ⟨[(5, .sc (.own 7777777)), (3, .sc (.num .i64 x.2.1)), (4, .sc (.num .i64 x.2.2))], [], [(7777777, .row 3 NI x.1)]⟩,
    fun x => x.1 ++ cf x.2.1 x.2.2 = cf n d ∧ 0 ≤ x.2.2 ∧ x.2.2 ≤ 1000000000 ∧ -1000000000 ≤ x.2.1 ∧ x.2.1 ≤ 1000000000, fun x => x.2.2.toNat, ⟨([], n, d), ?_, ?_⟩, ?_⟩
  · exact ⟨rfl, by dsimp only; omega, by dsimp only; omega, by dsimp only; omega, by dsimp only; omega⟩
  · repeat' (first | apply And.intro | exact True.intro | exact Lf.mk (by with_reducible rfl) | apply Lf.mk)
    all_goals rfl
  · rintro ⟨l, p, q⟩ ⟨g1, g2, g3, g4, g5⟩
    dsimp only at g1 g2 g3 g4 g5
    have e1 := ediv_mul p q
    have hlen : l.length ≤ 1000000001 := by
      have := congrArg List.length g1
      have := cf_length n d
      simp only [List.length_append] at *
      omega
    repeat' (first | with_reducible apply andAll_cons | with_reducible apply andAll_nil | (with_reducible apply Cf.mk; kernel_rfl) | apply And.intro | intro _ | exact True.intro | apply Lf.mk)
    all_goals (try simp only [Bool.not_eq_true', Bool.not_eq_false', Bool.not_not, decide_eq_true_eq, decide_eq_false_iff_not, beq_iff_eq, bne_iff_ne, beq_eq_false_iff_ne, bne_eq_false_iff_eq, ne_eq, Bool.and_eq_true, Bool.and_eq_false_iff, Bool.or_eq_true, Bool.or_eq_false_iff, Int.toNat_natCast, Nat.zero_add, Int.ofNat_lt, Int.ofNat_le, List.length_cons, List.length_nil, List.drop_zero, List.take_length] at *)
    all_goals (try have e2 := Int.emod_nonneg p (show q ≠ 0 by omega))
    all_goals (try have e3 := Int.emod_lt_of_pos p (show 0 < q by omega))
    all_goals first | omega | skip
    · refine ⟨(l ++ [p / q], q, p % q), ⟨?_, e2, by dsimp only; omega, by dsimp only; omega, by dsimp only; omega⟩, by dsimp only; omega, ?_⟩
      · dsimp only
        rw [List.append_assoc, List.singleton_append, ← cf_pos (by omega), g1]
      · repeat' (first | apply And.intro | exact True.intro | exact Lf.mk (by with_reducible rfl) | apply Lf.mk)
        all_goals (dsimp only; omega)
    · have h0 : q = 0 := by omega
      subst h0
      rw [cf_zero, List.append_nil] at g1
      exact g1

noncomputable def cfRes (x : Rt) : List Int × Bool := match goodRt x with
  | true => (cf x.num x.den, true)
  | false => ([], false)
noncomputable def s_impl_ContinuedFraction : Sig := ⟨12, [.val .rat], [.list 3 NI, .val .bool], fun ((x : Rt), _) => ⟨[], ((cfRes x).1, (cfRes x).2, ()), ()⟩⟩
noncomputable def s_spec_ContinuedFraction : Sig := ⟨13, [.val .rat], [.list 3 NI, .val .bool], fun ((x : Rt), _) => ⟨[], ((cfRes x).1, (cfRes x).2, ()), ()⟩⟩
theorem ok_impl_ContinuedFraction : GSpec Tryd.prog s_impl_ContinuedFraction := by
  refine fn_known tab_ok fol ((Known.nil.cons ok_impl_isRat (by kernel_rfl)).cons ok_impl_continued (by kernel_rfl)) (by decide) Tryd.func12 ?_
  rintro ⟨⟨(n : Int), (d : Int)⟩, ⟨⟩⟩ hl _
  repeat' (first | with_reducible apply andAll_cons | with_reducible apply andAll_nil | (with_reducible apply Cf.mk; kernel_rfl) | apply And.intro | intro _ | exact True.intro | apply Lf.mk)
  all_goals (try simp only [Bool.not_eq_true', Bool.not_eq_false', Bool.not_not, decide_eq_true_eq, decide_eq_false_iff_not, beq_iff_eq, bne_iff_ne, beq_eq_false_iff_ne, bne_eq_false_iff_eq, ne_eq, Bool.and_eq_true, Bool.and_eq_false_iff, Bool.or_eq_true, Bool.or_eq_false_iff, Int.toNat_natCast, Nat.zero_add, Int.ofNat_lt, Int.ofNat_le, List.length_cons, List.length_nil, List.drop_zero, List.take_length] at *)
  all_goals first | assumption | (unfold cfRes; simp_all; done)
theorem ok_spec_ContinuedFraction : GSpec Tryd.prog s_spec_ContinuedFraction := by
  refine fn_known tab_ok fol ((Known.nil.cons ok_spec_raGood (by kernel_rfl)).cons ok_spec_faContinued (by kernel_rfl)) (by decide) Tryd.func13 ?_
  rintro ⟨⟨(n : Int), (d : Int)⟩, ⟨⟩⟩ hl _
  repeat' (first | with_reducible apply andAll_cons | with_reducible apply andAll_nil | (with_reducible apply Cf.mk; kernel_rfl) | apply And.intro | intro _ | exact True.intro | apply Lf.mk)
  all_goals (try simp only [Bool.not_eq_true', Bool.not_eq_false', Bool.not_not, decide_eq_true_eq, decide_eq_false_iff_not, beq_iff_eq, bne_iff_ne, beq_eq_false_iff_ne, bne_eq_false_iff_eq, ne_eq, Bool.and_eq_true, Bool.and_eq_false_iff, Bool.or_eq_true, Bool.or_eq_false_iff, Int.toNat_natCast, Nat.zero_add, Int.ofNat_lt, Int.ofNat_le, List.length_cons, List.length_nil, List.drop_zero, List.take_length] at *)
  all_goals first | assumption | (unfold cfRes; simp_all; done)
theorem cfRes_length (x : Rt) : (cfRes x).1.length ≤ 1000000001 := by
  unfold cfRes
  split
  · rename_i h
    have := (goodRt_iff.1 h)
    have := cf_length x.num x.den
    show (cf x.num x.den).length ≤ _
    omega
  · simp
end Go.Vx
