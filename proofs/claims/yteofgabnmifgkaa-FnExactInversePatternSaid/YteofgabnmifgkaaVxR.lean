/- Patterns: the inverse. -/
import Derived.Test.YteofgabnmifgkaaVxQ
namespace Go.Vx
open Go Go.Proofs
set_option maxRecDepth 100000
set_option linter.unusedSimpArgs false
set_option linter.unusedVariables false

noncomputable def ivRes (l : List Int) : List Int × Bool := if patOk l = true then (invP l l.length, true) else ([], false)
theorem ivRes_t {l : List Int} (h : patOk l = true) : ivRes l = (invP l l.length, true) := by unfold ivRes; rw [if_pos h]
theorem ivRes_f {l : List Int} (h : patOk l = false) : ivRes l = ([], false) := by unfold ivRes; rw [h]; rfl
theorem ivRes_length (l : List Int) : (ivRes l).1.length ≤ 9 := by
  cases h : patOk l with
  | true => rw [ivRes_t h]; have := patOk_iff.1 h; show (invP l l.length).length ≤ 9; rw [invP_length]; omega
  | false => rw [ivRes_f h]; exact Nat.zero_le _
noncomputable def s_spec_InversePattern : Sig := ⟨21, [.list NI], [.list 3 NI, .val .bool], fun ((l : List Int), _) => ⟨[], ((ivRes l).1, (ivRes l).2, ()), ()⟩⟩
noncomputable def s_impl_InversePattern : Sig := ⟨22, [.list NI], [.list 3 NI, .val .bool], fun ((l : List Int), _) => ⟨[], ((ivRes l).1, (ivRes l).2, ()), ()⟩⟩
theorem ok_impl_InversePattern : GSpec Try.prog s_impl_InversePattern := by
  refine fn_known tab_ok fol (Known.nil.cons ok_impl_isPattern (by kernel_rfl)) (by decide) Try.func22 ?_
  rintro ⟨(l : List Int), ⟨⟩⟩ ⟨hl, _⟩ _
  have hl : l.length ≤ 9223372036854775807 := hl
  repeat' (first | with_reducible apply andAll_cons | with_reducible apply andAll_nil | (with_reducible apply Cf.mk; kernel_rfl) | apply And.intro | intro _ | exact True.intro | apply Lf.mk)
  all_goals (try simp only [Bool.not_eq_true', Bool.not_eq_false', Bool.not_not, decide_eq_true_eq, decide_eq_false_iff_not, beq_iff_eq, bne_iff_ne, beq_eq_false_iff_ne, bne_eq_false_iff_eq, ne_eq, Bool.and_eq_true, Bool.and_eq_false_iff, Bool.or_eq_true, Bool.or_eq_false_iff, Int.toNat_natCast, Nat.zero_add, Int.ofNat_lt, Int.ofNat_le, List.length_cons, List.length_nil, List.drop_zero, List.take_length] at *)
  all_goals first
    | (rw [ivRes_f (by assumption)]; done)
    | (have := patOk_len (l := l) (by assumption); omega)
    | skip
  rename_i h1
  have hlen := patOk_len h1
  have hr := patOk_rng h1
  refine ⟨Nat, fun i => ⟨[(15, .sc (.num .i64 i)), (4, .sc (.own 12))], [100000], [(12, .row 3 NI (invP l i))]⟩, fun i => i ≤ l.length, fun i => l.length - i, ⟨0, Nat.zero_le _, ?_⟩, ?_⟩
  · repeat' (first | apply And.intro | exact True.intro | exact Lf.mk (by with_reducible rfl) | apply Lf.mk)
    all_goals first | rfl | simp
  · rintro i g1
    have hm := invP_length l i
    repeat' (first | with_reducible apply andAll_cons | with_reducible apply andAll_nil | (with_reducible apply Cf.mk; kernel_rfl) | apply And.intro | intro _ | exact True.intro | apply Lf.mk)
    all_goals simp only [hm] at *
    all_goals (try simp only [Bool.not_eq_true', Bool.not_eq_false', Bool.not_not, decide_eq_true_eq, decide_eq_false_iff_not, beq_iff_eq, bne_iff_ne, beq_eq_false_iff_ne, bne_eq_false_iff_eq, ne_eq, Bool.and_eq_true, Bool.and_eq_false_iff, Bool.or_eq_true, Bool.or_eq_false_iff, Int.toNat_natCast, Nat.zero_add, Int.ofNat_lt, Int.ofNat_le, List.length_cons, List.length_nil, List.drop_zero, List.take_length] at *)
    all_goals first
      | omega
      | (have := (rngP_get hr (i := i) (by omega)).1; exact this)
      | (have := (rngP_get hr (i := i) (by omega)).2; exact this)
      | (have := rngP_get hr (i := i) (by omega); exact (Int.toNat_lt this.1).2 this.2)
      | (rw [ivRes_t h1, show i = l.length by omega]; done)
      | (rw [ivRes_t h1]; done)
      | skip
    rename_i h3
    refine ⟨i + 1, by omega, by omega, ?_⟩
    repeat' (first | apply And.intro | exact True.intro | exact Lf.mk (by with_reducible rfl) | apply Lf.mk)
    all_goals first | rfl | (rw [Int.natCast_add]; rfl) | omega | trace_state
theorem ok_spec_InversePattern : GSpec Try.prog s_spec_InversePattern := by
  refine fn_known tab_ok fol (Known.nil.cons ok_spec_ptGood (by kernel_rfl)) (by decide) Try.func21 ?_
  rintro ⟨(l : List Int), ⟨⟩⟩ ⟨hl, _⟩ _
  have hl : l.length ≤ 9223372036854775807 := hl
  repeat' (first | with_reducible apply andAll_cons | with_reducible apply andAll_nil | (with_reducible apply Cf.mk; kernel_rfl) | apply And.intro | intro _ | exact True.intro | apply Lf.mk)
  all_goals (try simp only [Bool.not_eq_true', Bool.not_eq_false', Bool.not_not, decide_eq_true_eq, decide_eq_false_iff_not, beq_iff_eq, bne_iff_ne, beq_eq_false_iff_ne, bne_eq_false_iff_eq, ne_eq, Bool.and_eq_true, Bool.and_eq_false_iff, Bool.or_eq_true, Bool.or_eq_false_iff, Int.toNat_natCast, Nat.zero_add, Int.ofNat_lt, Int.ofNat_le, List.length_cons, List.length_nil, List.drop_zero, List.take_length] at *)
  all_goals first
    | (rw [ivRes_f (by assumption)]; done)
    | (have := patOk_len (l := l) (by assumption); omega)
    | skip
  rename_i h1
  have hlen := patOk_len h1
  have hr := patOk_rng h1
  refine ⟨Nat, fun i => ⟨[(15, .sc (.num .i64 i)), (4, .sc (.own 12))], [100000], [(12, .row 3 NI (invP l i))]⟩, fun i => i ≤ l.length, fun i => l.length - i, ⟨0, Nat.zero_le _, ?_⟩, ?_⟩
  · repeat' (first | apply And.intro | exact True.intro | exact Lf.mk (by with_reducible rfl) | apply Lf.mk)
    all_goals first | rfl | simp
  · rintro i g1
    have hm := invP_length l i
    repeat' (first | with_reducible apply andAll_cons | with_reducible apply andAll_nil | (with_reducible apply Cf.mk; kernel_rfl) | apply And.intro | intro _ | exact True.intro | apply Lf.mk)
    all_goals simp only [hm] at *
    all_goals (try simp only [Bool.not_eq_true', Bool.not_eq_false', Bool.not_not, decide_eq_true_eq, decide_eq_false_iff_not, beq_iff_eq, bne_iff_ne, beq_eq_false_iff_ne, bne_eq_false_iff_eq, ne_eq, Bool.and_eq_true, Bool.and_eq_false_iff, Bool.or_eq_true, Bool.or_eq_false_iff, Int.toNat_natCast, Nat.zero_add, Int.ofNat_lt, Int.ofNat_le, List.length_cons, List.length_nil, List.drop_zero, List.take_length] at *)
    all_goals first
      | omega
      | (have := (rngP_get hr (i := i) (by omega)).1; exact this)
      | (have := (rngP_get hr (i := i) (by omega)).2; exact this)
      | (have := rngP_get hr (i := i) (by omega); exact (Int.toNat_lt this.1).2 this.2)
      | (rw [ivRes_t h1, show i = l.length by omega]; done)
      | (rw [ivRes_t h1]; done)
      | skip
    rename_i h3
    refine ⟨i + 1, by omega, by omega, ?_⟩
    repeat' (first | apply And.intro | exact True.intro | exact Lf.mk (by with_reducible rfl) | apply Lf.mk)
    all_goals first | rfl | (rw [Int.natCast_add]; rfl) | omega | trace_state
end Go.Vx
