/- Patterns: the public functions. -/
import Derived.Test.YteofgabnmifgkaaVxP
namespace Go.Vx
open Go Go.Proofs
set_option maxRecDepth 100000
set_option linter.unusedSimpArgs false
set_option linter.unusedVariables false

def stOk (l : List Int) (i n : Int) : Bool := patOk l && (inB i 0 ((l.length : Int) - 1) && inB n 0 1000)
noncomputable def stRes (l : List Int) (i n : Int) : Int × Bool := if stOk l i n = true then (stepP l i n.toNat, true) else (0, false)
theorem stRes_t {l : List Int} {i n : Int} (h1 : patOk l = true) (h2 : inB i 0 ((l.length : Int) - 1) = true) (h3 : inB n 0 1000 = true) : stRes l i n = (stepP l i n.toNat, true) := by
  unfold stRes stOk; rw [h1, h2, h3]; rfl
theorem stRes_1 {l : List Int} {i n : Int} (h1 : patOk l = false) : stRes l i n = (0, false) := by unfold stRes stOk; rw [h1]; rfl
theorem stRes_2 {l : List Int} {i n : Int} (h1 : inB i 0 ((l.length : Int) - 1) = false) : stRes l i n = (0, false) := by unfold stRes stOk; rw [h1]; simp
theorem stRes_3 {l : List Int} {i n : Int} (h1 : inB n 0 1000 = false) : stRes l i n = (0, false) := by unfold stRes stOk; rw [h1]; simp
theorem inB_of {n a b : Int} (h : inB n a b = true) : a ≤ n ∧ n ≤ b := of_decide_eq_true h
noncomputable def cyRes (l : List Int) : List Int × Bool := if patOk l = true then (cyc l, true) else ([], false)
theorem cyRes_t {l : List Int} (h : patOk l = true) : cyRes l = (cyc l, true) := by unfold cyRes; rw [if_pos h]
theorem cyRes_f {l : List Int} (h : patOk l = false) : cyRes l = ([], false) := by unfold cyRes; rw [h]; rfl
theorem patOk_len {l : List Int} (h : patOk l = true) : 1 ≤ l.length ∧ l.length ≤ 9 := (patOk_iff.1 h).1
theorem patOk_rng {l : List Int} (h : patOk l = true) : rngP l = true := (patOk_iff.1 h).2.1

noncomputable def s_spec_IsPattern : Sig := ⟨11, [.list NI], [.val .bool], fun ((l : List Int), _) => ⟨[], (patOk l, ()), ()⟩⟩
noncomputable def s_impl_IsPattern : Sig := ⟨13, [.list NI], [.val .bool], fun ((l : List Int), _) => ⟨[], (patOk l, ()), ()⟩⟩
noncomputable def s_spec_PatternStep : Sig := ⟨15, [.list NI, .val NI, .val NI], [.val NI, .val .bool], fun ((l : List Int), (i : Int), (n : Int), _) => ⟨[], ((stRes l i n).1, (stRes l i n).2, ()), ()⟩⟩
noncomputable def s_impl_PatternStep : Sig := ⟨16, [.list NI, .val NI, .val NI], [.val NI, .val .bool], fun ((l : List Int), (i : Int), (n : Int), _) => ⟨[], ((stRes l i n).1, (stRes l i n).2, ()), ()⟩⟩
noncomputable def s_spec_CycleOf : Sig := ⟨17, [.list NI], [.list 3 NI, .val .bool], fun ((l : List Int), _) => ⟨[], ((cyRes l).1, (cyRes l).2, ()), ()⟩⟩
noncomputable def s_impl_CycleOf : Sig := ⟨18, [.list NI], [.list 3 NI, .val .bool], fun ((l : List Int), _) => ⟨[], ((cyRes l).1, (cyRes l).2, ()), ()⟩⟩
theorem ok_spec_IsPattern : GSpec Try.prog s_spec_IsPattern := by
  refine fn_known tab_ok fol (Known.nil.cons ok_spec_ptGood (by kernel_rfl)) (by decide) Try.func11 ?_
  rintro ⟨(l : List Int), ⟨⟩⟩ ⟨hl, _⟩ _
  have hl : l.length ≤ 9223372036854775807 := hl
  repeat' (first | with_reducible apply andAll_cons | with_reducible apply andAll_nil | (with_reducible apply Cf.mk; kernel_rfl) | apply And.intro | intro _ | exact True.intro | apply Lf.mk)
  all_goals (try simp only [Bool.not_eq_true', Bool.not_eq_false', Bool.not_not, decide_eq_true_eq, decide_eq_false_iff_not, beq_iff_eq, bne_iff_ne, beq_eq_false_iff_ne, bne_eq_false_iff_eq, ne_eq, Bool.and_eq_true, Bool.and_eq_false_iff, Bool.or_eq_true, Bool.or_eq_false_iff, Int.toNat_natCast, Nat.zero_add, Int.ofNat_lt, Int.ofNat_le, List.length_cons, List.length_nil, List.drop_zero, List.take_length] at *)
theorem ok_impl_IsPattern : GSpec Try.prog s_impl_IsPattern := by
  refine fn_known tab_ok fol (Known.nil.cons ok_impl_isPattern (by kernel_rfl)) (by decide) Try.func13 ?_
  rintro ⟨(l : List Int), ⟨⟩⟩ ⟨hl, _⟩ _
  have hl : l.length ≤ 9223372036854775807 := hl
  repeat' (first | with_reducible apply andAll_cons | with_reducible apply andAll_nil | (with_reducible apply Cf.mk; kernel_rfl) | apply And.intro | intro _ | exact True.intro | apply Lf.mk)
  all_goals (try simp only [Bool.not_eq_true', Bool.not_eq_false', Bool.not_not, decide_eq_true_eq, decide_eq_false_iff_not, beq_iff_eq, bne_iff_ne, beq_eq_false_iff_ne, bne_eq_false_iff_eq, ne_eq, Bool.and_eq_true, Bool.and_eq_false_iff, Bool.or_eq_true, Bool.or_eq_false_iff, Int.toNat_natCast, Nat.zero_add, Int.ofNat_lt, Int.ofNat_le, List.length_cons, List.length_nil, List.drop_zero, List.take_length] at *)
theorem ok_spec_CycleOf : GSpec Try.prog s_spec_CycleOf := by
  refine fn_known tab_ok fol ((Known.nil.cons ok_spec_ptGood (by kernel_rfl)).cons ok_spec_ptCycle (by kernel_rfl)) (by decide) Try.func17 ?_
  rintro ⟨(l : List Int), ⟨⟩⟩ ⟨hl, _⟩ _
  have hl : l.length ≤ 9223372036854775807 := hl
  repeat' (first | with_reducible apply andAll_cons | with_reducible apply andAll_nil | (with_reducible apply Cf.mk; kernel_rfl) | apply And.intro | intro _ | exact True.intro | apply Lf.mk)
  all_goals (try simp only [Bool.not_eq_true', Bool.not_eq_false', Bool.not_not, decide_eq_true_eq, decide_eq_false_iff_not, beq_iff_eq, bne_iff_ne, beq_eq_false_iff_ne, bne_eq_false_iff_eq, ne_eq, Bool.and_eq_true, Bool.and_eq_false_iff, Bool.or_eq_true, Bool.or_eq_false_iff, Int.toNat_natCast, Nat.zero_add, Int.ofNat_lt, Int.ofNat_le, List.length_cons, List.length_nil, List.drop_zero, List.take_length] at *)
  all_goals first
    | rfl
    | exact patOk_rng (by assumption)
    | (have := patOk_len (l := l) (by assumption); omega)
    | (rw [cyRes_t (by assumption)]; done)
    | (rw [cyRes_f (by assumption)]; done)
    | trace_state
theorem ok_impl_CycleOf : GSpec Try.prog s_impl_CycleOf := by
  refine fn_known tab_ok fol ((Known.nil.cons ok_impl_isPattern (by kernel_rfl)).cons ok_impl_cycleOf (by kernel_rfl)) (by decide) Try.func18 ?_
  rintro ⟨(l : List Int), ⟨⟩⟩ ⟨hl, _⟩ _
  have hl : l.length ≤ 9223372036854775807 := hl
  repeat' (first | with_reducible apply andAll_cons | with_reducible apply andAll_nil | (with_reducible apply Cf.mk; kernel_rfl) | apply And.intro | intro _ | exact True.intro | apply Lf.mk)
  all_goals (try simp only [Bool.not_eq_true', Bool.not_eq_false', Bool.not_not, decide_eq_true_eq, decide_eq_false_iff_not, beq_iff_eq, bne_iff_ne, beq_eq_false_iff_ne, bne_eq_false_iff_eq, ne_eq, Bool.and_eq_true, Bool.and_eq_false_iff, Bool.or_eq_true, Bool.or_eq_false_iff, Int.toNat_natCast, Nat.zero_add, Int.ofNat_lt, Int.ofNat_le, List.length_cons, List.length_nil, List.drop_zero, List.take_length] at *)
  all_goals first
    | rfl
    | exact patOk_rng (by assumption)
    | (have := patOk_len (l := l) (by assumption); omega)
    | (rw [cyRes_t (by assumption)]; done)
    | (rw [cyRes_f (by assumption)]; done)
    | trace_state
theorem ok_impl_PatternStep : GSpec Try.prog s_impl_PatternStep := by
  refine fn_known tab_ok fol ((Known.nil.cons ok_impl_isPattern (by kernel_rfl)).cons ok_impl_within (by kernel_rfl)) (by decide) Try.func16 ?_
  rintro ⟨(l : List Int), (i : Int), (n : Int), ⟨⟩⟩ ⟨hl, hl2, _⟩ _
  have hl : l.length ≤ 9223372036854775807 := hl
  repeat' (first | with_reducible apply andAll_cons | with_reducible apply andAll_nil | (with_reducible apply Cf.mk; kernel_rfl) | apply And.intro | intro _ | exact True.intro | apply Lf.mk)
  all_goals (try simp only [Bool.not_eq_true', Bool.not_eq_false', Bool.not_not, decide_eq_true_eq, decide_eq_false_iff_not, beq_iff_eq, bne_iff_ne, beq_eq_false_iff_ne, bne_eq_false_iff_eq, ne_eq, Bool.and_eq_true, Bool.and_eq_false_iff, Bool.or_eq_true, Bool.or_eq_false_iff, Int.toNat_natCast, Nat.zero_add, Int.ofNat_lt, Int.ofNat_le, List.length_cons, List.length_nil, List.drop_zero, List.take_length] at *)
  all_goals first
    | (rw [stRes_1 (by assumption)]; done)
    | (rw [stRes_2 (by assumption)]; done)
    | (rw [stRes_3 (by assumption)]; done)
    | (have := patOk_len (l := l) (by assumption); omega)
    | skip
  rename_i h1 h2 h3
  have hlen := patOk_len h1
  have hr := patOk_rng h1
  have hi0 := inB_of h2
  have hn0 := inB_of h3
  refine ⟨Nat, fun j => ⟨[(1, .sc (.num .i64 (stepP l i j))), (25, .sc (.num .i64 j))], [100000], []⟩, fun j => (j : Int) ≤ n, fun j => n.toNat - j, ⟨0, by omega, ?_⟩, ?_⟩
  · repeat' (first | apply And.intro | exact True.intro | exact Lf.mk (by with_reducible rfl) | apply Lf.mk)
    all_goals rfl
  · rintro j g1
    have hs := stepP_rng hr (i := i) (by omega) j
    repeat' (first | with_reducible apply andAll_cons | with_reducible apply andAll_nil | (with_reducible apply Cf.mk; kernel_rfl) | apply And.intro | intro _ | exact True.intro | apply Lf.mk)
    all_goals (try simp only [Bool.not_eq_true', Bool.not_eq_false', Bool.not_not, decide_eq_true_eq, decide_eq_false_iff_not, beq_iff_eq, bne_iff_ne, beq_eq_false_iff_ne, bne_eq_false_iff_eq, ne_eq, Bool.and_eq_true, Bool.and_eq_false_iff, Bool.or_eq_true, Bool.or_eq_false_iff, Int.toNat_natCast, Nat.zero_add, Int.ofNat_lt, Int.ofNat_le, List.length_cons, List.length_nil, List.drop_zero, List.take_length] at *)
    all_goals first | omega | skip
    · rename_i h4
      refine ⟨j + 1, by omega, by omega, ?_⟩
      repeat' (first | apply And.intro | exact True.intro | exact Lf.mk (by with_reducible rfl) | apply Lf.mk)
      all_goals first | rfl | (rw [Int.natCast_add]; rfl) | omega
    all_goals (rw [stRes_t h1 h2 h3]; try rw [show n.toNat = j by omega])
theorem ok_spec_PatternStep : GSpec Try.prog s_spec_PatternStep := by
  refine fn_known tab_ok fol ((Known.nil.cons ok_spec_ptGood (by kernel_rfl)).cons ok_spec_l1In (by kernel_rfl)) (by decide) Try.func15 ?_
  rintro ⟨(l : List Int), (i : Int), (n : Int), ⟨⟩⟩ ⟨hl, hl2, _⟩ _
  have hl : l.length ≤ 9223372036854775807 := hl
  repeat' (first | with_reducible apply andAll_cons | with_reducible apply andAll_nil | (with_reducible apply Cf.mk; kernel_rfl) | apply And.intro | intro _ | exact True.intro | apply Lf.mk)
  all_goals (try simp only [Bool.not_eq_true', Bool.not_eq_false', Bool.not_not, decide_eq_true_eq, decide_eq_false_iff_not, beq_iff_eq, bne_iff_ne, beq_eq_false_iff_ne, bne_eq_false_iff_eq, ne_eq, Bool.and_eq_true, Bool.and_eq_false_iff, Bool.or_eq_true, Bool.or_eq_false_iff, Int.toNat_natCast, Nat.zero_add, Int.ofNat_lt, Int.ofNat_le, List.length_cons, List.length_nil, List.drop_zero, List.take_length] at *)
  all_goals first
    | (rw [stRes_1 (by assumption)]; done)
    | (rw [stRes_2 (by assumption)]; done)
    | (rw [stRes_3 (by assumption)]; done)
    | (have := patOk_len (l := l) (by assumption); omega)
    | skip
  rename_i h1 h2 h3
  have hlen := patOk_len h1
  have hr := patOk_rng h1
  have hi0 := inB_of h2
  have hn0 := inB_of h3
  refine ⟨Nat, fun j => ⟨[(1, .sc (.num .i64 (stepP l i j))), (2, .sc (.num .i64 (n - j)))], [100000], []⟩, fun j => (j : Int) ≤ n, fun j => n.toNat - j, ⟨0, by omega, ?_⟩, ?_⟩
  · repeat' (first | apply And.intro | exact True.intro | exact Lf.mk (by with_reducible rfl) | apply Lf.mk)
    all_goals first | rfl | omega
  · rintro j g1
    have hs := stepP_rng hr (i := i) (by omega) j
    repeat' (first | with_reducible apply andAll_cons | with_reducible apply andAll_nil | (with_reducible apply Cf.mk; kernel_rfl) | apply And.intro | intro _ | exact True.intro | apply Lf.mk)
    all_goals (try simp only [Bool.not_eq_true', Bool.not_eq_false', Bool.not_not, decide_eq_true_eq, decide_eq_false_iff_not, beq_iff_eq, bne_iff_ne, beq_eq_false_iff_ne, bne_eq_false_iff_eq, ne_eq, Bool.and_eq_true, Bool.and_eq_false_iff, Bool.or_eq_true, Bool.or_eq_false_iff, Int.toNat_natCast, Nat.zero_add, Int.ofNat_lt, Int.ofNat_le, List.length_cons, List.length_nil, List.drop_zero, List.take_length] at *)
    all_goals first | omega | skip
    · rename_i h4
      refine ⟨j + 1, by omega, by omega, ?_⟩
      repeat' (first | apply And.intro | exact True.intro | exact Lf.mk (by with_reducible rfl) | apply Lf.mk)
      all_goals first | rfl | (rw [Int.natCast_add]; rfl) | omega
    all_goals (rw [stRes_t h1 h2 h3]; try rw [show n.toNat = j by omega])
end Go.Vx
