/- Patterns: the program's functions and the reference's. -/
import Derived.Test.YteofgabnmifgkaaVxL
import Derived.Test.YteofgabnmifgkaaVxF
import Derived.Test.YteofgabnmifgkaaVpPat
namespace Go.Vx
open Go Go.Proofs
set_option maxRecDepth 100000
set_option linter.unusedSimpArgs false
set_option linter.unusedVariables false

theorem any_not' {α : Type} (p : α → Bool) (l : List α) : (!(l.any fun x => !p x)) = l.all p := by
  rw [List.not_any_eq_all_not]; simp
noncomputable def s_lib_IndexInt : Sig := ⟨52, [.list NI, .val NI], [.val NI], fun ((l : List Int), (x : Int), _) => ⟨[], (idxF (fun y => x == y) l, ()), ()⟩⟩
noncomputable def s_lib_ContainsInt : Sig := ⟨59, [.list NI, .val NI], [.val .bool], fun ((l : List Int), (x : Int), _) => ⟨[], (l.contains x, ()), ()⟩⟩
noncomputable def s_spec_l1Has : Sig := ⟨58, [.list NI, .val NI], [.val .bool], fun ((l : List Int), (x : Int), _) => ⟨[], (l.contains x, ()), ()⟩⟩
theorem any_contains (l : List Int) (x : Int) : (l.any fun y => x == y) = l.contains x := by rw [List.contains_eq_any_beq]
theorem ok_lib_IndexInt : GSpec Try.prog s_lib_IndexInt := by
  refine fn_known tab_ok fol Known.nil (by decide) Try.func52 ?_
  rintro ⟨(l : List Int), (x : Int), ⟨⟩⟩ ⟨hl, _⟩ _
  have hl : l.length ≤ 9223372036854775807 := hl
  refine ⟨Nat, fun i => ⟨[(8, .sc (.num .i64 i))], [100000], []⟩, fun i => i ≤ l.length ∧ (l.take i).any (fun y => x == y) = false, fun i => l.length - i, ⟨0, ⟨Nat.zero_le _, rfl⟩, ?_⟩, ?_⟩
  · repeat' (first | apply And.intro | exact True.intro | exact Lf.mk (by with_reducible rfl) | apply Lf.mk)
    all_goals rfl
  · rintro i ⟨g1, g2⟩
    repeat' (first | with_reducible apply andAll_cons | with_reducible apply andAll_nil | (with_reducible apply Cf.mk; kernel_rfl) | apply And.intro | intro _ | exact True.intro | apply Lf.mk)
    all_goals simp only [Int.toNat_natCast, Nat.zero_add, decide_eq_true_eq, decide_eq_false_iff_not, Int.ofNat_lt] at *
    all_goals first | omega | skip
    · exact (idxF_hit NI.dflt (by assumption) g2 (by assumption)).symm
    · refine ⟨i + 1, ⟨by omega, take_all_false NI.dflt (by assumption) g2 (by assumption)⟩, by omega, ?_⟩
      repeat' (first | apply And.intro | exact True.intro | exact Lf.mk (by with_reducible rfl) | apply Lf.mk)
      all_goals (rw [Int.natCast_add]; rfl)
    · rename_i h3
      rw [List.take_of_length_le (by omega)] at g2
      exact (idxF_none g2).symm
theorem ok_lib_ContainsInt : GSpec Try.prog s_lib_ContainsInt := by
  refine fn_known tab_ok fol (Known.nil.cons ok_lib_IndexInt (by kernel_rfl)) (by decide) Try.func59 ?_
  rintro ⟨(l : List Int), (x : Int), ⟨⟩⟩ ⟨hl, _⟩ _
  repeat' (first | with_reducible apply andAll_cons | with_reducible apply andAll_nil | (with_reducible apply Cf.mk; kernel_rfl) | apply And.intro | intro _ | exact True.intro | apply Lf.mk)
  all_goals (try simp only [Bool.not_eq_true', Bool.not_eq_false', Bool.not_not, decide_eq_true_eq, decide_eq_false_iff_not, beq_iff_eq, bne_iff_ne, beq_eq_false_iff_ne, bne_eq_false_iff_eq, ne_eq, Bool.and_eq_true, Bool.and_eq_false_iff, Bool.or_eq_true, Bool.or_eq_false_iff, Int.toNat_natCast, Nat.zero_add, Int.ofNat_lt, Int.ofNat_le, List.length_cons, List.length_nil, List.drop_zero, List.take_length] at *)
  rw [← any_contains]
  exact idxF_any
theorem ok_spec_l1Has : GSpec Try.prog s_spec_l1Has := by
  refine fn_known tab_ok fol Known.nil (by decide) Try.func58 ?_
  rintro ⟨(l : List Int), (x : Int), ⟨⟩⟩ ⟨hl, _⟩ _
  have hl : l.length ≤ 9223372036854775807 := hl
  refine ⟨Nat, fun i => ⟨[(9, .sc (.num .i64 i))], [100000], []⟩, fun i => i ≤ l.length ∧ (l.take i).any (fun y => x == y) = false, fun i => l.length - i, ⟨0, ⟨Nat.zero_le _, rfl⟩, ?_⟩, ?_⟩
  · repeat' (first | apply And.intro | exact True.intro | exact Lf.mk (by with_reducible rfl) | apply Lf.mk)
    all_goals rfl
  · rintro i ⟨g1, g2⟩
    repeat' (first | with_reducible apply andAll_cons | with_reducible apply andAll_nil | (with_reducible apply Cf.mk; kernel_rfl) | apply And.intro | intro _ | exact True.intro | apply Lf.mk)
    all_goals simp only [Int.toNat_natCast, Nat.zero_add, decide_eq_true_eq, decide_eq_false_iff_not, Int.ofNat_lt, beq_iff_eq, beq_eq_false_iff_ne] at *
    all_goals first | omega | skip
    · rename_i h3 h4
      symm
      rw [List.contains_iff_mem, ← h4]
      exact getA_mem _ h3
    · rename_i h3 h4
      refine ⟨i + 1, ⟨by omega, take_all_false NI.dflt h3 g2 (by simpa using fun h => h4 h.symm)⟩, by omega, ?_⟩
      repeat' (first | apply And.intro | exact True.intro | exact Lf.mk (by with_reducible rfl) | apply Lf.mk)
      all_goals (rw [Int.natCast_add]; rfl)
    · rename_i h3
      rw [List.take_of_length_le (by omega)] at g2
      rw [← any_contains, g2]

noncomputable def s_impl_cycleOf : Sig := ⟨42, [.list NI], [.list 3 NI], fun ((l : List Int), _) => ⟨[0 < l.length, l.length ≤ 1000000000, rngP l = true], (cyc l, ()), ()⟩⟩
noncomputable def s_spec_ptCycle : Sig := ⟨41, [.list NI], [.list 3 NI], fun ((l : List Int), _) => ⟨[0 < l.length, l.length ≤ 1000000000, rngP l = true], (cyc l, ()), ()⟩⟩
theorem ok_impl_cycleOf : GSpec Try.prog s_impl_cycleOf := by
  refine fn_known tab_ok fol (Known.nil.cons ok_lib_ContainsInt (by kernel_rfl)) (by decide) Try.func42 ?_
  rintro ⟨(l : List Int), ⟨⟩⟩ ⟨hl, _⟩ ⟨h0, h1, hr, _⟩
  have hl : l.length ≤ 9223372036854775807 := hl
  refine ⟨List Int × Int, fun x => ⟨[(3, .sc (.own 7777777)), (4, .sc (.num .i64 x.2))], [100000], [(7777777, .row 3 NI x.1)]⟩, fun x => CycI l x.1 x.2, fun x => l.length + 1 - x.1.length, ⟨([], 0), CycI.start h0, ?_⟩, ?_⟩
  · repeat' (first | apply And.intro | exact True.intro | exact Lf.mk (by with_reducible rfl) | apply Lf.mk)
    all_goals rfl
  · rintro ⟨out, i⟩ hc
    dsimp only at hc
    have hlen := hc.len
    have hi := hc.ii
    repeat' (first | with_reducible apply andAll_cons | with_reducible apply andAll_nil | (with_reducible apply Cf.mk; kernel_rfl) | apply And.intro | intro _ | exact True.intro | apply Lf.mk)
    all_goals (try simp only [Bool.not_eq_true', Bool.not_eq_false', Bool.not_not, decide_eq_true_eq, decide_eq_false_iff_not, beq_iff_eq, bne_iff_ne, beq_eq_false_iff_ne, bne_eq_false_iff_eq, ne_eq, Bool.and_eq_true, Bool.and_eq_false_iff, Bool.or_eq_true, Bool.or_eq_false_iff, Int.toNat_natCast, Nat.zero_add, Int.ofNat_lt, Int.ofNat_le, List.length_cons, List.length_nil, List.drop_zero, List.take_length] at *)
    all_goals first | omega | skip
    · rename_i h3
      refine ⟨(out ++ [i], getA 0 l i.toNat), hc.step hr h3, by simp; omega, ?_⟩
      repeat' (first | apply And.intro | exact True.intro | exact Lf.mk (by with_reducible rfl) | apply Lf.mk)
      all_goals rfl
    · exact hc.stop (by assumption)
theorem ok_spec_ptCycle : GSpec Try.prog s_spec_ptCycle := by
  refine fn_known tab_ok fol (Known.nil.cons ok_spec_l1Has (by kernel_rfl)) (by decide) Try.func41 ?_
  rintro ⟨(l : List Int), ⟨⟩⟩ ⟨hl, _⟩ ⟨h0, h1, hr, _⟩
  have hl : l.length ≤ 9223372036854775807 := hl
  refine ⟨List Int × Int, fun x => ⟨[(3, .sc (.own 7777777)), (4, .sc (.num .i64 x.2))], [100000], [(7777777, .row 3 NI x.1)]⟩, fun x => CycI l x.1 x.2, fun x => l.length + 1 - x.1.length, ⟨([], 0), CycI.start h0, ?_⟩, ?_⟩
  · repeat' (first | apply And.intro | exact True.intro | exact Lf.mk (by with_reducible rfl) | apply Lf.mk)
    all_goals rfl
  · rintro ⟨out, i⟩ hc
    dsimp only at hc
    have hlen := hc.len
    have hi := hc.ii
    repeat' (first | with_reducible apply andAll_cons | with_reducible apply andAll_nil | (with_reducible apply Cf.mk; kernel_rfl) | apply And.intro | intro _ | exact True.intro | apply Lf.mk)
    all_goals (try simp only [Bool.not_eq_true', Bool.not_eq_false', Bool.not_not, decide_eq_true_eq, decide_eq_false_iff_not, beq_iff_eq, bne_iff_ne, beq_eq_false_iff_ne, bne_eq_false_iff_eq, ne_eq, Bool.and_eq_true, Bool.and_eq_false_iff, Bool.or_eq_true, Bool.or_eq_false_iff, Int.toNat_natCast, Nat.zero_add, Int.ofNat_lt, Int.ofNat_le, List.length_cons, List.length_nil, List.drop_zero, List.take_length] at *)
    all_goals first | omega | skip
    · rename_i h3
      refine ⟨(out ++ [i], getA 0 l i.toNat), hc.step hr h3, by simp; omega, ?_⟩
      repeat' (first | apply And.intro | exact True.intro | exact Lf.mk (by with_reducible rfl) | apply Lf.mk)
      all_goals rfl
    · exact hc.stop (by assumption)

noncomputable def s_impl_isPattern_1 : Sig := ⟨57, [.val NI, .lcell 22 NI], [.val .bool], fun ((k : Int), (l : List Int), _) => ⟨[], (!inB k 0 ((l.length : Int) - 1), ()), ()⟩⟩
noncomputable def s_impl_isPattern : Sig := ⟨38, [.list NI], [.val .bool], fun ((l : List Int), _) => ⟨[], (patOk l, ()), ()⟩⟩
noncomputable def s_spec_ptGood : Sig := ⟨37, [.list NI], [.val .bool], fun ((l : List Int), _) => ⟨[], (patOk l, ()), ()⟩⟩
theorem ok_impl_isPattern_1 : GSpec Try.prog s_impl_isPattern_1 := by
  refine fn_known tab_ok fol (Known.nil.cons ok_impl_within (by kernel_rfl)) (by decide) Try.func57 ?_
  rintro ⟨(k : Int), (l : List Int), ⟨⟩⟩ ⟨hl, _⟩ _
  have hl : l.length ≤ 9223372036854775807 := hl
  repeat' (first | with_reducible apply andAll_cons | with_reducible apply andAll_nil | (with_reducible apply Cf.mk; kernel_rfl) | apply And.intro | intro _ | exact True.intro | apply Lf.mk)
  all_goals first | omega | rfl | trace_state
theorem rngP_all (l : List Int) : (l.all fun n => inB n 0 ((l.length : Int) - 1)) = rngP l := rfl
theorem rngP_any (l : List Int) : (l.any fun n => !inB n 0 ((l.length : Int) - 1)) = !rngP l := by
  rw [← rngP_all, List.not_all_eq_any_not]
theorem inB_len {n : Nat} {a b : Int} (h : inB (n : Int) a b = true) : a ≤ n ∧ (n : Int) ≤ b := of_decide_eq_true h
theorem patOk_no1 {l : List Int} (h : inB (l.length : Int) 1 9 = false) : patOk l = false := by unfold patOk; rw [h]; rfl
theorem patOk_no2 {l : List Int} (h : rngP l = false) : patOk l = false := by unfold patOk; rw [h]; simp
theorem patOk_no3 {l : List Int} (h : ¬ ((cyc l).length : Int) = l.length) : patOk l = false := by
  unfold patOk; rw [decide_eq_false (p := (cyc l).length = l.length) (by omega)]; simp
theorem patOk_last {l : List Int} {a : Int} (h1 : inB (l.length : Int) 1 9 = true) (h2 : rngP l = true) (h3 : ((cyc l).length : Int) = l.length) (ha : a = getA 0 l (getA 0 (cyc l) (l.length - 1)).toNat) : decide (a = 0) = patOk l := by
  unfold patOk; rw [h1, h2, decide_eq_true (p := (cyc l).length = l.length) (by omega), ha]; simp
theorem patOk_last' {l : List Int} {a : Int} (h1 : inB (l.length : Int) 1 9 = true) (h2 : rngP l = true) (h3 : ((cyc l).length : Int) = l.length) (ha : a = getA 0 l (getA 0 (cyc l) (l.length - 1)).toNat) : (bif ((cyc l).length : Int) == l.length then a == 0 else false) = patOk l := by
  rw [← patOk_last h1 h2 h3 ha, h3, beq_self_eq_true, cond_true]; rfl
theorem cyc_get {l : List Int} (h1 : inB (l.length : Int) 1 9 = true) (h2 : rngP l = true) (h3 : ((cyc l).length : Int) = l.length) : 0 ≤ getA 0 (cyc l) (l.length - 1) ∧ getA 0 (cyc l) (l.length - 1) < (l.length : Int) := by
  have := inB_len h1
  exact cyc_mem h2 (by omega) _ (getA_mem _ (by omega))
theorem ok_spec_ptGood : GSpec Try.prog s_spec_ptGood := by
  refine fn_known tab_ok fol (((Known.nil.cons ok_spec_l1In (by kernel_rfl)).cons ok_spec_l1All (by kernel_rfl)).cons ok_spec_ptCycle (by kernel_rfl)) (by decide) Try.func37 ?_
  rintro ⟨(l : List Int), ⟨⟩⟩ ⟨hl, _⟩ _
  have hl : l.length ≤ 9223372036854775807 := hl
  repeat' (first | with_reducible apply andAll_cons | with_reducible apply andAll_nil | (with_reducible apply Cf.mk; kernel_rfl) | apply And.intro | intro _ | exact True.intro | apply Lf.mk)
  all_goals (try simp only [Bool.not_eq_true', Bool.not_eq_false', Bool.not_not, decide_eq_true_eq, decide_eq_false_iff_not, beq_iff_eq, bne_iff_ne, beq_eq_false_iff_ne, bne_eq_false_iff_eq, ne_eq, Bool.and_eq_true, Bool.and_eq_false_iff, Bool.or_eq_true, Bool.or_eq_false_iff, Int.toNat_natCast, Nat.zero_add, Int.ofNat_lt, Int.ofNat_le, List.length_cons, List.length_nil, List.drop_zero, List.take_length] at *)
  all_goals try simp only [rngP_all, rngP_any, Bool.not_eq_true', Bool.not_eq_false', Bool.not_eq_true, Bool.not_eq_false, beq_iff_eq, bne_iff_ne, beq_eq_false_iff_ne, decide_eq_true_eq, decide_eq_false_iff_not] at *
  all_goals first
    | rfl
    | exact (patOk_no1 (by assumption)).symm
    | exact (patOk_no2 (by assumption)).symm
    | (have hb := inB_len (n := l.length) (by assumption)
       first
         | omega
         | assumption
         | exact (patOk_no3 (by omega)).symm
         | (have hc := cyc_get (l := l) (by assumption) (by assumption) (by omega)
            have e : ((l.length : Int) - 1).toNat = l.length - 1 := by omega
            have e2 : (((cyc l).length : Int) - 1).toNat = l.length - 1 := by omega
            try simp only [e, e2] at *
            first
              | exact hc.1
              | exact hc.2
              | exact (Int.toNat_lt hc.1).2 hc.2
              | exact patOk_last (by assumption) (by assumption) (by omega) rfl
              | exact patOk_last' (by assumption) (by assumption) (by omega) rfl)
         | trace_state)
    | trace_state
theorem ok_impl_isPattern : GSpec Try.prog s_impl_isPattern := by
  refine fn_known tab_ok fol ((((Known.nil.cons ok_impl_within (by kernel_rfl)).cons ok_lib_ContainsFuncInt (by kernel_rfl)).cons ok_impl_isPattern_1 (by kernel_rfl)).cons ok_impl_cycleOf (by kernel_rfl)) (by decide) Try.func38 ?_
  rintro ⟨(l : List Int), ⟨⟩⟩ ⟨hl, _⟩ _
  have hl : l.length ≤ 9223372036854775807 := hl
  repeat' (first | with_reducible apply andAll_cons | with_reducible apply andAll_nil | (with_reducible apply Cf.mk; kernel_rfl) | apply And.intro | intro _ | exact True.intro | apply Lf.mk)
  all_goals (try simp only [Bool.not_eq_true', Bool.not_eq_false', Bool.not_not, decide_eq_true_eq, decide_eq_false_iff_not, beq_iff_eq, bne_iff_ne, beq_eq_false_iff_ne, bne_eq_false_iff_eq, ne_eq, Bool.and_eq_true, Bool.and_eq_false_iff, Bool.or_eq_true, Bool.or_eq_false_iff, Int.toNat_natCast, Nat.zero_add, Int.ofNat_lt, Int.ofNat_le, List.length_cons, List.length_nil, List.drop_zero, List.take_length] at *)
  all_goals try simp only [rngP_all, rngP_any, Bool.not_eq_true', Bool.not_eq_false', Bool.not_eq_true, Bool.not_eq_false, beq_iff_eq, bne_iff_ne, beq_eq_false_iff_ne, decide_eq_true_eq, decide_eq_false_iff_not] at *
  all_goals first
    | rfl
    | exact (patOk_no1 (by assumption)).symm
    | exact (patOk_no2 (by assumption)).symm
    | (have hb := inB_len (n := l.length) (by assumption)
       first
         | omega
         | assumption
         | exact (patOk_no3 (by omega)).symm
         | (have hc := cyc_get (l := l) (by assumption) (by assumption) (by omega)
            have e : ((l.length : Int) - 1).toNat = l.length - 1 := by omega
            have e2 : (((cyc l).length : Int) - 1).toNat = l.length - 1 := by omega
            try simp only [e, e2] at *
            first
              | exact hc.1
              | exact hc.2
              | exact (Int.toNat_lt hc.1).2 hc.2
              | exact patOk_last (by assumption) (by assumption) (by omega) rfl
              | exact patOk_last' (by assumption) (by assumption) (by omega) rfl)
         | trace_state)
    | trace_state
end Go.Vx
