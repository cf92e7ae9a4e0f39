/- Stairs: the program's functions and the reference's. -/
import Derived.Test.YtalgocopemmelaaGreatDoorVpStair
import Derived.Test.YtalgocopemmelaaGreatDoorVxP
namespace Go.Vx
open Go Go.Proofs
set_option maxRecDepth 100000
set_option linter.unusedSimpArgs false
set_option linter.unusedVariables false

/-- a stair: 1 to 21 valid fractions -/
noncomputable def stairOk (l : List Rt) : Bool := inB l.length 1 21 && l.all goodRt
theorem stair_len {l : List Rt} (h : stairOk l = true) : 1 ≤ l.length ∧ l.length ≤ 21 := by
  unfold stairOk inB at h
  rw [Bool.and_eq_true, decide_eq_true_eq] at h
  omega
theorem stair_all {l : List Rt} (h : stairOk l = true) : ∀ x ∈ l, goodRt x = true := by
  unfold stairOk at h
  rw [Bool.and_eq_true, List.all_eq_true] at h
  exact h.2
theorem stair_get {l : List Rt} (h : stairOk l = true) {i : Nat} (hi : i < l.length) : goodRt (getA zR l i) = true := stair_all h _ (getA_mem _ hi)
noncomputable def s_impl_isStair : Sig := ⟨26, [.list .rat], [.val .bool], fun ((l : List Rt), _) => ⟨[], (stairOk l, ()), ()⟩⟩
noncomputable def s_spec_lkStair : Sig := ⟨28, [.list .rat], [.val .bool], fun ((l : List Rt), _) => ⟨[], (stairOk l, ()), ()⟩⟩
theorem ok_impl_isStair : GSpec Tryz.prog s_impl_isStair := by
  refine fn_known tab_ok fol ((Known.nil.cons ok_impl_within (by kernel_rfl)).cons ok_impl_areRats (by kernel_rfl)) (by decide) Tryz.func26 ?_
  rintro ⟨(l : List Rt), ⟨⟩⟩ ⟨hl, _⟩ _
  have hl : l.length ≤ 9223372036854775807 := hl
  repeat' (first | with_reducible apply andAll_cons | with_reducible apply andAll_nil | (with_reducible apply Cf.mk; kernel_rfl) | apply And.intro | intro _ | exact True.intro | apply Lf.mk)
  all_goals (try simp only [Bool.not_eq_true', Bool.not_eq_false', Bool.not_not, decide_eq_true_eq, decide_eq_false_iff_not, beq_iff_eq, bne_iff_ne, beq_eq_false_iff_ne, bne_eq_false_iff_eq, ne_eq, Bool.and_eq_true, Bool.and_eq_false_iff, Bool.or_eq_true, Bool.or_eq_false_iff, Int.toNat_natCast, Nat.zero_add, Int.ofNat_lt, Int.ofNat_le, List.length_cons, List.length_nil, List.drop_zero, List.take_length] at *)
  all_goals first | omega | rfl | (unfold stairOk; rw [(by assumption : inB _ _ _ = _)]; rfl) | (unfold stairOk; rw [(by assumption : inB _ _ _ = _)]; simp)
theorem ok_spec_lkStair : GSpec Tryz.prog s_spec_lkStair := by
  refine fn_known tab_ok fol ((Known.nil.cons ok_spec_raGood (by kernel_rfl)).cons ok_spec_l1In (by kernel_rfl)) (by decide) Tryz.func28 ?_
  rintro ⟨(l : List Rt), ⟨⟩⟩ ⟨hl, _⟩ _
  have hl : l.length ≤ 9223372036854775807 := hl
  refine ⟨Nat, fun i => ⟨[(7, .sc (.num .i64 i))], [100000], []⟩, fun i => i ≤ l.length ∧ (l.take i).all goodRt = true, fun i => l.length - i, ⟨0, ⟨Nat.zero_le _, rfl⟩, ?_⟩, ?_⟩
  · repeat' (first | apply And.intro | exact True.intro | exact Lf.mk (by with_reducible rfl) | apply Lf.mk)
    all_goals rfl
  · rintro i ⟨g1, g2⟩
    repeat' (first | with_reducible apply andAll_cons | with_reducible apply andAll_nil | (with_reducible apply Cf.mk; kernel_rfl) | apply And.intro | intro _ | exact True.intro | apply Lf.mk)
    all_goals (try simp only [Bool.not_eq_true', Bool.not_eq_false', Bool.not_not, decide_eq_true_eq, decide_eq_false_iff_not, beq_iff_eq, bne_iff_ne, beq_eq_false_iff_ne, bne_eq_false_iff_eq, ne_eq, Bool.and_eq_true, Bool.and_eq_false_iff, Bool.or_eq_true, Bool.or_eq_false_iff, Int.toNat_natCast, Nat.zero_add, Int.ofNat_lt, Int.ofNat_le, List.length_cons, List.length_nil, List.drop_zero, List.take_length] at *)
    all_goals first | omega | skip
    · unfold stairOk
      rw [all_false_of _ zR l i (by assumption) (by assumption)]; simp
    · refine ⟨i + 1, ⟨by omega, ?_⟩, by omega, ?_⟩
      · rw [all_take_succ _ zR l i (by assumption), g2]; simpa using (by assumption)
      · repeat' (first | apply And.intro | exact True.intro | exact Lf.mk (by with_reducible rfl) | apply Lf.mk)
        all_goals (rw [Int.natCast_add]; rfl)
    · rw [List.take_of_length_le (by omega)] at g2
      unfold stairOk; rw [g2]; simp
noncomputable def s_impl_steps : Sig := ⟨27, [.list .rat], [.list 30 .rat, .list 3 NI], fun ((l : List Rt), _) => ⟨[stairOk l = true], ((stL l l.length).1, (stL l l.length).2, ()), ()⟩⟩
noncomputable def s_spec_lkSteps : Sig := ⟨29, [.list .rat], [.list 30 .rat, .list 3 NI], fun ((l : List Rt), _) => ⟨[stairOk l = true], ((stL l l.length).1, (stL l l.length).2, ()), ()⟩⟩
theorem set_new {α : Type} (d : Int) (c : List Int) {k : Nat} (h : k = c.length) : (c ++ [0]).set k (getA d (c ++ [0]) k + 1) = c ++ [1] := by
  subst h; rw [getA_app_last, set_app_last]; rfl
theorem st_new {l : List Rt} {i : Nat} (h : i < l.length) (h2 : 0 < (stL l i).1.length → getA zR (stL l i).1 ((stL l i).1.length - 1) ≠ getA zR l i) : stL l (i + 1) = ((stL l i).1 ++ [getA zR l i], (stL l i).2 ++ [1]) := by
  rw [stL_succ h, stF_miss h2]
theorem st_hit {l : List Rt} {i : Nat} (h : i < l.length) (h0 : 0 < (stL l i).1.length) (h2 : getA zR (stL l i).1 ((stL l i).1.length - 1) = getA zR l i) : stL l (i + 1) = ((stL l i).1, (stL l i).2.set ((stL l i).2.length - 1) (getA 0 (stL l i).2 ((stL l i).2.length - 1) + 1)) := by
  rw [stL_succ h, stF_hit h0 h2]
theorem eqRt_t {a b : Rt} (h : eqRt a b = true) : a = b := of_decide_eq_true h
theorem eqRt_f {a b : Rt} (h : eqRt a b = false) : a ≠ b := of_decide_eq_false h
theorem bif_t {P Q : Bool} (h : (bif P then true else !Q) = true) (h2 : P = false) : Q = false := by revert h h2; cases P <;> cases Q <;> decide
theorem bif_f {P Q : Bool} (h : (bif P then true else !Q) = false) : Q = true := by revert h; cases P <;> cases Q <;> decide
theorem bE2 {P Q : Bool} (h : (bif P then Q else false) = true) : Q = true := by revert h; cases P <;> cases Q <;> decide
theorem ok_impl_steps : GSpec Tryz.prog s_impl_steps := by
  refine fn_known tab_ok fol Known.nil (by decide) Tryz.func27 ?_
  rintro ⟨(l : List Rt), ⟨⟩⟩ ⟨hl, _⟩ ⟨h1, _⟩
  have hlen := stair_len h1
  refine ⟨Nat, fun i => ⟨[(10, .sc (.num .i64 i)), (4, .sc (.own 7777777)), (5, .sc (.own 7777778))], [100000], [(7777777, .row 30 .rat (stL l i).1), (7777778, .row 3 NI (stL l i).2)]⟩, fun i => i ≤ l.length, fun i => l.length - i, ⟨0, Nat.zero_le _, ?_⟩, ?_⟩
  · repeat' (first | apply And.intro | exact True.intro | exact Lf.mk (by with_reducible rfl) | apply Lf.mk)
    all_goals first | rfl | simp
  · intro i g1
    obtain ⟨i1, i2, i3, i4⟩ := stL_inv l i g1
    have e2 : (((((stL l i).2 ++ [0]).length : Nat) : Int) - 1).toNat = (stL l i).2.length := by simp
    have e3 : ((((stL l i).2.length : Nat) : Int) - 1).toNat = (stL l i).2.length - 1 := by omega
    repeat' (first | with_reducible apply andAll_cons | with_reducible apply andAll_nil | (with_reducible apply Cf.mk; kernel_rfl) | apply And.intro | intro _ | exact True.intro | apply Lf.mk)
    all_goals (try simp only [Bool.not_eq_true', Bool.not_eq_false', Bool.not_not, decide_eq_true_eq, decide_eq_false_iff_not, beq_iff_eq, bne_iff_ne, beq_eq_false_iff_ne, bne_eq_false_iff_eq, ne_eq, Bool.and_eq_true, Bool.and_eq_false_iff, Bool.or_eq_true, Bool.or_eq_false_iff, Int.toNat_natCast, Nat.zero_add, Int.ofNat_lt, Int.ofNat_le, List.length_cons, List.length_nil, List.drop_zero, List.take_length] at *)
    all_goals first
      | omega
      | contradiction
      | (show (_ + 1) * 16 ≤ 140737488355328; omega)
      | (simp only [List.length_append, List.length_cons, List.length_nil]; omega)
      | (rw [e2, getA_app_last]; omega)
      | (rw [e2]; simp; done)
      | (have := i4 _ (getA_mem NI.dflt (l := (stL l i).2) (i := ((((stL l i).2.length : Nat) : Int) - 1).toNat) (by omega)); omega)
      | skip
    · rename_i q1 q2 q3
      have hne := eqRt_f (bif_t q3 (beq_false_of_ne q2))
      have e := st_new q1 (fun _ => by
        rw [(i3 (by omega)).2]
        intro h; apply hne
        rw [show ((i : Int) - 1).toNat = i - 1 by omega]; exact h)
      refine ⟨i + 1, by omega, by omega, ?_⟩
      repeat' (first | apply And.intro | exact True.intro | exact Lf.mk (by with_reducible rfl) | apply Lf.mk)
      · rw [Int.natCast_add]; rfl
      · rw [e]; rfl
      · rw [e]; exact set_new (α := Int) _ _ e2
    · rename_i q1 q2 q3
      have heq := eqRt_t (bif_f q3)
      rw [show ((i : Int) - 1).toNat = i - 1 by omega] at heq
      have e := st_hit q1 (i3 (by omega)).1 (by rw [(i3 (by omega)).2]; exact heq)
      refine ⟨i + 1, by omega, by omega, ?_⟩
      repeat' (first | apply And.intro | exact True.intro | exact Lf.mk (by with_reducible rfl) | apply Lf.mk)
      · rw [Int.natCast_add]; rfl
      · rw [e]
      · rw [e, e3]; rfl
    · rename_i q1 q2 q3
      have e := st_new q1 (fun h => by omega)
      refine ⟨i + 1, by omega, by omega, ?_⟩
      repeat' (first | apply And.intro | exact True.intro | exact Lf.mk (by with_reducible rfl) | apply Lf.mk)
      · rw [Int.natCast_add]; rfl
      · rw [e]; rfl
      · rw [e]; exact set_new (α := Int) _ _ e2
    · rw [show i = l.length by omega]
    · rw [show i = l.length by omega]
theorem ok_spec_lkSteps : GSpec Tryz.prog s_spec_lkSteps := by
  refine fn_known tab_ok fol Known.nil (by decide) Tryz.func29 ?_
  rintro ⟨(l : List Rt), ⟨⟩⟩ ⟨hl, _⟩ ⟨h1, _⟩
  have hlen := stair_len h1
  refine ⟨Nat, fun i => ⟨[(11, .sc (.num .i64 i)), (4, .sc (.own 7777777)), (5, .sc (.own 7777778))], [100000], [(7777777, .row 30 .rat (stL l i).1), (7777778, .row 3 NI (stL l i).2)]⟩, fun i => i ≤ l.length, fun i => l.length - i, ⟨0, Nat.zero_le _, ?_⟩, ?_⟩
  · repeat' (first | apply And.intro | exact True.intro | exact Lf.mk (by with_reducible rfl) | apply Lf.mk)
    all_goals first | rfl | simp
  · intro i g1
    obtain ⟨i1, i2, i3, i4⟩ := stL_inv l i g1
    have e3 : ((((stL l i).1.length : Nat) : Int) - 1).toNat = (stL l i).2.length - 1 := by omega
    have e4 : (stL l i).1.length - 1 = (stL l i).2.length - 1 := by omega
    repeat' (first | with_reducible apply andAll_cons | with_reducible apply andAll_nil | (with_reducible apply Cf.mk; kernel_rfl) | apply And.intro | intro _ | exact True.intro | apply Lf.mk)
    all_goals (try simp only [Bool.not_eq_true', Bool.not_eq_false', Bool.not_not, decide_eq_true_eq, decide_eq_false_iff_not, beq_iff_eq, bne_iff_ne, beq_eq_false_iff_ne, bne_eq_false_iff_eq, ne_eq, Bool.and_eq_true, Bool.and_eq_false_iff, Bool.or_eq_true, Bool.or_eq_false_iff, Int.toNat_natCast, Nat.zero_add, Int.ofNat_lt, Int.ofNat_le, List.length_cons, List.length_nil, List.drop_zero, List.take_length] at *)
    all_goals first
      | omega
      | contradiction
      | (show (_ + 1) * 16 ≤ 140737488355328; omega)
      | (have := i4 _ (getA_mem NI.dflt (l := (stL l i).2) (i := ((((stL l i).1.length : Nat) : Int) - 1).toNat) (by omega)); omega)
      | (rw [show i = l.length by omega]; done)
      | skip
    · rename_i q1 q2 q3
      have heq := eqRt_t (bE2 q3)
      have e := st_hit q1 (by omega) (by rw [e4, ← e3]; exact heq)
      refine ⟨i + 1, by omega, by omega, ?_⟩
      repeat' (first | apply And.intro | exact True.intro | exact Lf.mk (by with_reducible rfl) | apply Lf.mk)
      · rw [Int.natCast_add]; rfl
      · rw [e]
      · rw [e, e3]; rfl
    · rename_i q1 q2 q3
      have hne := eqRt_f (by rw [decide_eq_true q2] at q3; exact q3 : eqRt _ _ = false)
      have e := st_new q1 (fun _ => by rw [e4, ← e3]; exact hne)
      refine ⟨i + 1, by omega, by omega, ?_⟩
      repeat' (first | apply And.intro | exact True.intro | exact Lf.mk (by with_reducible rfl) | apply Lf.mk)
      · rw [Int.natCast_add]; rfl
      · rw [e]; rfl
      · rw [e]
    · rename_i q1 q2 q3
      have e := st_new q1 (fun h => by omega)
      refine ⟨i + 1, by omega, by omega, ?_⟩
      repeat' (first | apply And.intro | exact True.intro | exact Lf.mk (by with_reducible rfl) | apply Lf.mk)
      · rw [Int.natCast_add]; rfl
      · rw [e]; rfl
      · rw [e]

noncomputable def ssRes (l : List Rt) : List Rt × List Int × Bool := match stairOk l with
  | true => ((stL l l.length).1, (stL l l.length).2, true)
  | false => ([], [], false)
theorem ss_t {l : List Rt} (h : stairOk l = true) : ssRes l = ((stL l l.length).1, (stL l l.length).2, true) := by unfold ssRes; rw [h]
theorem ss_f {l : List Rt} (h : stairOk l = false) : ssRes l = ([], [], false) := by unfold ssRes; rw [h]
theorem ss_len (l : List Rt) : (ssRes l).1.length ≤ 21 ∧ (ssRes l).2.1.length ≤ 21 := by
  cases h : stairOk l with
  | false => rw [ss_f h]; exact ⟨Nat.zero_le _, Nat.zero_le _⟩
  | true =>
    rw [ss_t h]
    have := stair_len h
    obtain ⟨i1, i2, i3, i4⟩ := stL_inv l l.length (Nat.le_refl _)
    exact ⟨by dsimp only; omega, by dsimp only; omega⟩
noncomputable def s_impl_StepsOfStair : Sig := ⟨6, [.list .rat], [.list 30 .rat, .list 3 NI, .val .bool], fun ((l : List Rt), _) => ⟨[], ((ssRes l).1, (ssRes l).2.1, (ssRes l).2.2, ()), ()⟩⟩
noncomputable def s_spec_StepsOfStair : Sig := ⟨7, [.list .rat], [.list 30 .rat, .list 3 NI, .val .bool], fun ((l : List Rt), _) => ⟨[], ((ssRes l).1, (ssRes l).2.1, (ssRes l).2.2, ()), ()⟩⟩
theorem ok_impl_StepsOfStair : GSpec Tryz.prog s_impl_StepsOfStair := by
  refine fn_known tab_ok fol ((Known.nil.cons ok_impl_isStair (by kernel_rfl)).cons ok_impl_steps (by kernel_rfl)) (by decide) Tryz.func6 ?_
  rintro ⟨(l : List Rt), ⟨⟩⟩ - -
  repeat' (first | with_reducible apply andAll_cons | with_reducible apply andAll_nil | (with_reducible apply Cf.mk; kernel_rfl) | apply And.intro | intro _ | exact True.intro | apply Lf.mk)
  all_goals (try simp only [Bool.not_eq_true', Bool.not_eq_false', Bool.not_not, decide_eq_true_eq, decide_eq_false_iff_not, beq_iff_eq, bne_iff_ne, beq_eq_false_iff_ne, bne_eq_false_iff_eq, ne_eq, Bool.and_eq_true, Bool.and_eq_false_iff, Bool.or_eq_true, Bool.or_eq_false_iff, Int.toNat_natCast, Nat.zero_add, Int.ofNat_lt, Int.ofNat_le, List.length_cons, List.length_nil, List.drop_zero, List.take_length] at *)
  all_goals first | assumption | (rw [ss_f (by assumption)]; done) | (rw [ss_t (by assumption)]; done) | skip
theorem ok_spec_StepsOfStair : GSpec Tryz.prog s_spec_StepsOfStair := by
  refine fn_known tab_ok fol ((Known.nil.cons ok_spec_lkStair (by kernel_rfl)).cons ok_spec_lkSteps (by kernel_rfl)) (by decide) Tryz.func7 ?_
  rintro ⟨(l : List Rt), ⟨⟩⟩ - -
  repeat' (first | with_reducible apply andAll_cons | with_reducible apply andAll_nil | (with_reducible apply Cf.mk; kernel_rfl) | apply And.intro | intro _ | exact True.intro | apply Lf.mk)
  all_goals (try simp only [Bool.not_eq_true', Bool.not_eq_false', Bool.not_not, decide_eq_true_eq, decide_eq_false_iff_not, beq_iff_eq, bne_iff_ne, beq_eq_false_iff_ne, bne_eq_false_iff_eq, ne_eq, Bool.and_eq_true, Bool.and_eq_false_iff, Bool.or_eq_true, Bool.or_eq_false_iff, Int.toNat_natCast, Nat.zero_add, Int.ofNat_lt, Int.ofNat_le, List.length_cons, List.length_nil, List.drop_zero, List.take_length] at *)
  all_goals first | assumption | (rw [ss_f (by assumption)]; done) | (rw [ss_t (by assumption)]; done) | skip
noncomputable def s_lib_MaxInt : Sig := ⟨30, [.list NI], [.val NI], fun ((l : List Int), _) => ⟨[0 < l.length], (maxL l, ()), ()⟩⟩
theorem ok_lib_MaxInt : GSpec Tryz.prog s_lib_MaxInt := by
  refine fn_known tab_ok fol Known.nil (by decide) Tryz.func30 ?_
  rintro ⟨(l : List Int), ⟨⟩⟩ ⟨hl, _⟩ ⟨h0, _⟩
  have hl : l.length ≤ 9223372036854775807 := hl
  repeat' (first | with_reducible apply andAll_cons | with_reducible apply andAll_nil | (with_reducible apply Cf.mk; kernel_rfl) | apply And.intro | intro _ | exact True.intro | apply Lf.mk)
  all_goals (try simp only [Bool.not_eq_true', Bool.not_eq_false', Bool.not_not, decide_eq_true_eq, decide_eq_false_iff_not, beq_iff_eq, bne_iff_ne, beq_eq_false_iff_ne, bne_eq_false_iff_eq, ne_eq, Bool.and_eq_true, Bool.and_eq_false_iff, Bool.or_eq_true, Bool.or_eq_false_iff, Int.toNat_natCast, Nat.zero_add, Int.ofNat_lt, Int.ofNat_le, List.length_cons, List.length_nil, List.drop_zero, List.take_length] at *)
  all_goals first | omega | skip
  refine ⟨Nat, fun i => ⟨[(4, .sc (.num .i64 ((i : Int) + 1))), (3, .sc (.num .i64 (((l.drop 1).take i).foldl maxF (getA NI.dflt l 0))))], [100000], []⟩, fun i => i + 1 ≤ l.length, fun i => l.length - i, ⟨0, by omega, ?_⟩, ?_⟩
  · repeat' (first | apply And.intro | exact True.intro | exact Lf.mk (by with_reducible rfl) | apply Lf.mk)
    all_goals rfl
  · intro i g1
    repeat' (first | with_reducible apply andAll_cons | with_reducible apply andAll_nil | (with_reducible apply Cf.mk; kernel_rfl) | apply And.intro | intro _ | exact True.intro | apply Lf.mk)
    all_goals (try simp only [Bool.not_eq_true', Bool.not_eq_false', Bool.not_not, decide_eq_true_eq, decide_eq_false_iff_not, beq_iff_eq, bne_iff_ne, beq_eq_false_iff_ne, bne_eq_false_iff_eq, ne_eq, Bool.and_eq_true, Bool.and_eq_false_iff, Bool.or_eq_true, Bool.or_eq_false_iff, Int.toNat_natCast, Nat.zero_add, Int.ofNat_lt, Int.ofNat_le, List.length_cons, List.length_nil, List.drop_zero, List.take_length] at *)
    all_goals first | omega | skip
    · refine ⟨i + 1, by omega, by omega, ?_⟩
      repeat' (first | apply And.intro | exact True.intro | exact Lf.mk (by with_reducible rfl) | apply Lf.mk)
      · rw [Int.natCast_add]; rfl
      · rename_i h3
        rw [List.take_add_one, List.foldl_append]
        have h4 : (l.drop 1)[i]? = some (getA NI.dflt l (i + 1)) := by
          rw [List.getElem?_drop, Nat.add_comm 1 i, List.getElem?_eq_getElem (by omega), getA_lt _ _ _ (by omega)]
        rw [h4]
        have h5 : ((i : Int) + 1).toNat = i + 1 := by omega
        rw [h5]
        rfl
    · rw [List.take_of_length_le (by simp; omega)]; rfl
noncomputable def wsRes (l : List Rt) : Rt × Int × Bool := match stairOk l with
  | true => (getA zR (stL l l.length).1 (bestF (stL l l.length).2 (stL l l.length).2.length), getA 0 (stL l l.length).2 (bestF (stL l l.length).2 (stL l l.length).2.length), true)
  | false => (⟨0, 0⟩, 0, false)
theorem ws_t {l : List Rt} (h : stairOk l = true) : wsRes l = (getA zR (stL l l.length).1 (bestF (stL l l.length).2 (stL l l.length).2.length), getA 0 (stL l l.length).2 (bestF (stL l l.length).2 (stL l l.length).2.length), true) := by unfold wsRes; rw [h]
theorem ws_f {l : List Rt} (h : stairOk l = false) : wsRes l = (⟨0, 0⟩, 0, false) := by unfold wsRes; rw [h]
noncomputable def s_impl_WidestStep : Sig := ⟨8, [.list .rat], [.val .rat, .val NI, .val .bool], fun ((l : List Rt), _) => ⟨[], ((wsRes l).1, (wsRes l).2.1, (wsRes l).2.2, ()), ()⟩⟩
noncomputable def s_spec_WidestStep : Sig := ⟨9, [.list .rat], [.val .rat, .val NI, .val .bool], fun ((l : List Rt), _) => ⟨[], ((wsRes l).1, (wsRes l).2.1, (wsRes l).2.2, ()), ()⟩⟩
theorem bestF_lt {l : List Int} {i : Nat} (h : 0 < l.length) (hi : i ≤ l.length) : bestF l i < l.length := by
  rcases Nat.eq_zero_or_pos i with h0 | h0
  · subst h0; exact h
  · have := (bestF_spec l i h0 hi).1; omega
theorem best_t {l : List Int} {i : Nat} (h : getA (0 : Int) l (bestF l i) < getA (0 : Int) l i) : bestF l (i + 1) = i := by rw [bestF, if_pos h]
theorem best_f {l : List Int} {i : Nat} (h : ¬ getA (0 : Int) l (bestF l i) < getA (0 : Int) l i) : bestF l (i + 1) = bestF l i := by rw [bestF, if_neg h]
theorem ok_impl_WidestStep : GSpec Tryz.prog s_impl_WidestStep := by
  refine fn_known tab_ok fol ((((Known.nil.cons ok_impl_isStair (by kernel_rfl)).cons ok_impl_steps (by kernel_rfl)).cons ok_lib_MaxInt (by kernel_rfl)).cons ok_lib_IndexInt (by kernel_rfl)) (by decide) Tryz.func8 ?_
  rintro ⟨(l : List Rt), ⟨⟩⟩ - -
  obtain ⟨i1, i2, i3, i4⟩ := stL_inv l l.length (Nat.le_refl _)
  repeat' (first | with_reducible apply andAll_cons | with_reducible apply andAll_nil | (with_reducible apply Cf.mk; kernel_rfl) | apply And.intro | intro _ | exact True.intro | apply Lf.mk)
  all_goals (try simp only [Bool.not_eq_true', Bool.not_eq_false', Bool.not_not, decide_eq_true_eq, decide_eq_false_iff_not, beq_iff_eq, bne_iff_ne, beq_eq_false_iff_ne, bne_eq_false_iff_eq, ne_eq, Bool.and_eq_true, Bool.and_eq_false_iff, Bool.or_eq_true, Bool.or_eq_false_iff, Int.toNat_natCast, Nat.zero_add, Int.ofNat_lt, Int.ofNat_le, List.length_cons, List.length_nil, List.drop_zero, List.take_length] at *)
  all_goals first | assumption | (rw [ws_f (by assumption)]; done) | skip
  all_goals
    have hs := by assumption
    have hp := stair_len hs
    have h0 : 0 < (stL l l.length).2.length := by have := i3 (by omega); omega
    have hb := bestF_lt h0 (Nat.le_refl _)
    have hx : idxF (fun y => maxL (stL l l.length).2 == y) (stL l l.length).2 = (bestF (stL l l.length).2 (stL l l.length).2.length : Nat) := idx_best h0
    first
      | omega
      | (rw [ws_t hs]; exact maxL_best h0)
      | (rw [ws_t hs]; done)
      | (rw [ws_t hs, hx]; rfl)
      | skip
theorem ok_spec_WidestStep : GSpec Tryz.prog s_spec_WidestStep := by
  refine fn_known tab_ok fol ((Known.nil.cons ok_spec_lkStair (by kernel_rfl)).cons ok_spec_lkSteps (by kernel_rfl)) (by decide) Tryz.func9 ?_
  rintro ⟨(l : List Rt), ⟨⟩⟩ - -
  obtain ⟨i1, i2, i3, i4⟩ := stL_inv l l.length (Nat.le_refl _)
  repeat' (first | with_reducible apply andAll_cons | with_reducible apply andAll_nil | (with_reducible apply Cf.mk; kernel_rfl) | apply And.intro | intro _ | exact True.intro | apply Lf.mk)
  all_goals (try simp only [Bool.not_eq_true', Bool.not_eq_false', Bool.not_not, decide_eq_true_eq, decide_eq_false_iff_not, beq_iff_eq, bne_iff_ne, beq_eq_false_iff_ne, bne_eq_false_iff_eq, ne_eq, Bool.and_eq_true, Bool.and_eq_false_iff, Bool.or_eq_true, Bool.or_eq_false_iff, Int.toNat_natCast, Nat.zero_add, Int.ofNat_lt, Int.ofNat_le, List.length_cons, List.length_nil, List.drop_zero, List.take_length] at *)
  all_goals first | assumption | (rw [ws_f (by assumption)]; done) | skip
  rename_i hs
  have hp := stair_len hs
  have h0 : 0 < (stL l l.length).2.length := by have := i3 (by omega); omega
  refine ⟨Nat, fun i => ⟨[(21, .sc (.num .i64 i)), (7, .sc (.num .i64 (bestF (stL l l.length).2 i)))], [2, 200160, 200161], []⟩, fun i => i ≤ (stL l l.length).2.length, fun i => (stL l l.length).2.length - i, ⟨0, Nat.zero_le _, ?_⟩, ?_⟩
  · repeat' (first | apply And.intro | exact True.intro | exact Lf.mk (by with_reducible rfl) | apply Lf.mk)
    all_goals rfl
  · intro i g1
    have hb := bestF_lt h0 g1
    repeat' (first | with_reducible apply andAll_cons | with_reducible apply andAll_nil | (with_reducible apply Cf.mk; kernel_rfl) | apply And.intro | intro _ | exact True.intro | apply Lf.mk)
    all_goals (try simp only [Bool.not_eq_true', Bool.not_eq_false', Bool.not_not, decide_eq_true_eq, decide_eq_false_iff_not, beq_iff_eq, bne_iff_ne, beq_eq_false_iff_ne, bne_eq_false_iff_eq, ne_eq, Bool.and_eq_true, Bool.and_eq_false_iff, Bool.or_eq_true, Bool.or_eq_false_iff, Int.toNat_natCast, Nat.zero_add, Int.ofNat_lt, Int.ofNat_le, List.length_cons, List.length_nil, List.drop_zero, List.take_length] at *)
    all_goals first
      | omega
      | (rw [ws_t hs]; done)
      | (rw [ws_t hs, show i = (stL l l.length).2.length by omega]; done)
      | (rw [ws_t hs, show i = (stL l l.length).2.length by omega]; rfl)
      | skip
    · have e := best_t (l := (stL l l.length).2) (i := i) (by assumption)
      refine ⟨i + 1, by omega, by omega, ?_⟩
      repeat' (first | apply And.intro | exact True.intro | exact Lf.mk (by with_reducible rfl) | apply Lf.mk)
      all_goals first | (rw [Int.natCast_add]; rfl) | (rw [e]; done)
    · have e := best_f (l := (stL l l.length).2) (i := i) (by assumption)
      refine ⟨i + 1, by omega, by omega, ?_⟩
      repeat' (first | apply And.intro | exact True.intro | exact Lf.mk (by with_reducible rfl) | apply Lf.mk)
      all_goals first | (rw [Int.natCast_add]; rfl) | (rw [e]; done)
noncomputable def s_lib_IsSortedFuncRat : Sig := ⟨34, [.list .rat, .cmp .rat], [.val .bool], fun ((l : List Rt), ((D : Rt → Rt → Prop), (c : Rt → Rt → Int)), _) => ⟨[∀ x ∈ l, ∀ y ∈ l, D x y], (sortF zR c l, ()), ()⟩⟩
theorem sort_no {α : Type} {d : α} {c : α → α → Int} {l : List α} {i : Nat} (h : i + 1 < l.length) (h2 : c (getA d l (i + 1)) (getA d l i) < 0) : sortF d c l = false := by
  rw [Bool.eq_false_iff]; intro h3; exact sortF_iff.1 h3 i h h2
theorem ok_lib_IsSortedFuncRat : GSpec Tryz.prog s_lib_IsSortedFuncRat := by
  refine fn_known tab_ok fol Known.nil (by decide) Tryz.func34 ?_
  rintro ⟨(l : List Rt), ⟨(D : Rt → Rt → Prop), (c : Rt → Rt → Int)⟩, ⟨⟩⟩ ⟨hl, _⟩ ⟨hD, _⟩
  have hl : l.length ≤ 9223372036854775807 := hl
  repeat' (first | with_reducible apply andAll_cons | with_reducible apply andAll_nil | (with_reducible apply Cf.mk; kernel_rfl) | apply And.intro | intro _ | exact True.intro | apply Lf.mk)
  all_goals (try simp only [Bool.not_eq_true', Bool.not_eq_false', Bool.not_not, decide_eq_true_eq, decide_eq_false_iff_not, beq_iff_eq, bne_iff_ne, beq_eq_false_iff_ne, bne_eq_false_iff_eq, ne_eq, Bool.and_eq_true, Bool.and_eq_false_iff, Bool.or_eq_true, Bool.or_eq_false_iff, Int.toNat_natCast, Nat.zero_add, Int.ofNat_lt, Int.ofNat_le, List.length_cons, List.length_nil, List.drop_zero, List.take_length] at *)
  all_goals first | omega | skip
  refine ⟨Nat, fun k => ⟨[(5, .sc (.num .i64 ((l.length : Int) - 1 - k)))], [100000], []⟩, fun k => k ≤ l.length ∧ ∀ j, l.length ≤ j + k + 1 → j + 1 < l.length → ¬ c (getA zR l (j + 1)) (getA zR l j) < 0, fun k => l.length - k, ⟨0, ⟨Nat.zero_le _, fun j hj hj2 => by omega⟩, ?_⟩, ?_⟩
  · repeat' (first | apply And.intro | exact True.intro | exact Lf.mk (by with_reducible rfl) | apply Lf.mk)
    all_goals first | rfl | omega
  · rintro k ⟨g1, g2⟩
    repeat' (first | with_reducible apply andAll_cons | with_reducible apply andAll_nil | (with_reducible apply Cf.mk; kernel_rfl) | apply And.intro | intro _ | exact True.intro | apply Lf.mk)
    all_goals (try simp only [Bool.not_eq_true', Bool.not_eq_false', Bool.not_not, decide_eq_true_eq, decide_eq_false_iff_not, beq_iff_eq, bne_iff_ne, beq_eq_false_iff_ne, bne_eq_false_iff_eq, ne_eq, Bool.and_eq_true, Bool.and_eq_false_iff, Bool.or_eq_true, Bool.or_eq_false_iff, Int.toNat_natCast, Nat.zero_add, Int.ofNat_lt, Int.ofNat_le, List.length_cons, List.length_nil, List.drop_zero, List.take_length] at *)
    all_goals first | omega | exact hD _ (getA_mem _ (by omega)) _ (getA_mem _ (by omega)) | skip
    · rename_i q1 q2
      rw [show ((l.length : Int) - 1 - k - 1).toNat = l.length - 2 - k by omega, show ((l.length : Int) - 1 - k).toNat = l.length - 2 - k + 1 by omega] at q2
      exact (sort_no (d := zR) (i := l.length - 2 - k) (by omega) q2).symm
    · rename_i q1 q2
      rw [show ((l.length : Int) - 1 - k - 1).toNat = l.length - 2 - k by omega, show ((l.length : Int) - 1 - k).toNat = l.length - 2 - k + 1 by omega] at q2
      refine ⟨k + 1, ⟨by omega, fun j hj hj2 => ?_⟩, by omega, ?_⟩
      · rcases Nat.lt_or_ge (l.length - 2 - k) j with h5 | h5
        · exact g2 j (by omega) hj2
        · rw [show j = l.length - 2 - k by omega]; exact q2
      · repeat' (first | apply And.intro | exact True.intro | exact Lf.mk (by with_reducible rfl) | apply Lf.mk)
        all_goals first | (rw [Int.natCast_add]; omega) | omega
    · exact (sortF_iff.2 fun j hj => g2 j (by omega) hj).symm
noncomputable def srRes (l : List Rt) : Bool × Bool := match stairOk l with
  | true => (sortF zR cmpRt l, true)
  | false => (false, false)
theorem sr_t {l : List Rt} (h : stairOk l = true) : srRes l = (sortF zR cmpRt l, true) := by unfold srRes; rw [h]
theorem sr_f {l : List Rt} (h : stairOk l = false) : srRes l = (false, false) := by unfold srRes; rw [h]
noncomputable def s_impl_IsStaircase : Sig := ⟨12, [.list .rat], [.val .bool, .val .bool], fun ((l : List Rt), _) => ⟨[], ((srRes l).1, (srRes l).2, ()), ()⟩⟩
noncomputable def s_spec_IsStaircase : Sig := ⟨13, [.list .rat], [.val .bool, .val .bool], fun ((l : List Rt), _) => ⟨[], ((srRes l).1, (srRes l).2, ()), ()⟩⟩
theorem ok_impl_IsStaircase : GSpec Tryz.prog s_impl_IsStaircase := by
  refine fn_known tab_ok fol (((Known.nil.cons ok_impl_isStair (by kernel_rfl)).cons ok_impl_compare (by kernel_rfl)).cons ok_lib_IsSortedFuncRat (by kernel_rfl)) (by decide) Tryz.func12 ?_
  rintro ⟨(l : List Rt), ⟨⟩⟩ - -
  repeat' (first | with_reducible apply andAll_cons | with_reducible apply andAll_nil | (with_reducible apply Cf.mk; kernel_rfl) | apply And.intro | intro _ | exact True.intro | apply Lf.mk)
  all_goals (try simp only [Bool.not_eq_true', Bool.not_eq_false', Bool.not_not, decide_eq_true_eq, decide_eq_false_iff_not, beq_iff_eq, bne_iff_ne, beq_eq_false_iff_ne, bne_eq_false_iff_eq, ne_eq, Bool.and_eq_true, Bool.and_eq_false_iff, Bool.or_eq_true, Bool.or_eq_false_iff, Int.toNat_natCast, Nat.zero_add, Int.ofNat_lt, Int.ofNat_le, List.length_cons, List.length_nil, List.drop_zero, List.take_length] at *)
  all_goals first | assumption | (rw [sr_f (by assumption)]; done) | (rw [sr_t (by assumption)]; done) | (rw [sr_t (by assumption)]; rfl) | exact stair_all (by assumption) _ (by assumption) | skip
theorem cmp_pos_neg {a b : Rt} (h : 0 < cmpRt a b) : cmpRt b a < 0 := by rw [cmpRt_swap]; omega
theorem cmp_npos {a b : Rt} (h : ¬ 0 < cmpRt a b) : ¬ cmpRt b a < 0 := by rw [cmpRt_swap]; omega
theorem ok_spec_IsStaircase : GSpec Tryz.prog s_spec_IsStaircase := by
  refine fn_known tab_ok fol ((Known.nil.cons ok_spec_lkStair (by kernel_rfl)).cons ok_spec_raCmp (by kernel_rfl)) (by decide) Tryz.func13 ?_
  rintro ⟨(l : List Rt), ⟨⟩⟩ - -
  repeat' (first | with_reducible apply andAll_cons | with_reducible apply andAll_nil | (with_reducible apply Cf.mk; kernel_rfl) | apply And.intro | intro _ | exact True.intro | apply Lf.mk)
  all_goals (try simp only [Bool.not_eq_true', Bool.not_eq_false', Bool.not_not, decide_eq_true_eq, decide_eq_false_iff_not, beq_iff_eq, bne_iff_ne, beq_eq_false_iff_ne, bne_eq_false_iff_eq, ne_eq, Bool.and_eq_true, Bool.and_eq_false_iff, Bool.or_eq_true, Bool.or_eq_false_iff, Int.toNat_natCast, Nat.zero_add, Int.ofNat_lt, Int.ofNat_le, List.length_cons, List.length_nil, List.drop_zero, List.take_length] at *)
  all_goals first | assumption | (rw [sr_f (by assumption)]; done) | skip
  rename_i hs
  have hp := stair_len hs
  refine ⟨Nat, fun i => ⟨[(4, .sc (.num .i64 ((i : Int) + 1)))], [100000], []⟩, fun i => i + 1 ≤ l.length ∧ ∀ j, j < i → ¬ cmpRt (getA zR l (j + 1)) (getA zR l j) < 0, fun i => l.length - i, ⟨0, ⟨by omega, fun j hj => by omega⟩, ?_⟩, ?_⟩
  · repeat' (first | apply And.intro | exact True.intro | exact Lf.mk (by with_reducible rfl) | apply Lf.mk)
    all_goals rfl
  · rintro i ⟨g1, g2⟩
    repeat' (first | with_reducible apply andAll_cons | with_reducible apply andAll_nil | (with_reducible apply Cf.mk; kernel_rfl) | apply And.intro | intro _ | exact True.intro | apply Lf.mk)
    all_goals (try simp only [Bool.not_eq_true', Bool.not_eq_false', Bool.not_not, decide_eq_true_eq, decide_eq_false_iff_not, beq_iff_eq, bne_iff_ne, beq_eq_false_iff_ne, bne_eq_false_iff_eq, ne_eq, Bool.and_eq_true, Bool.and_eq_false_iff, Bool.or_eq_true, Bool.or_eq_false_iff, Int.toNat_natCast, Nat.zero_add, Int.ofNat_lt, Int.ofNat_le, List.length_cons, List.length_nil, List.drop_zero, List.take_length] at *)
    all_goals first | omega | exact stair_get hs (by omega) | (rw [sr_t hs]; done) | skip
    all_goals try simp only [show ((i : Int) + 1 - 1).toNat = i by omega, show ((i : Int) + 1).toNat = i + 1 by omega] at *
    · rename_i q1 q2
      rw [sr_t hs]; exact (sort_no (d := zR) (i := i) (by omega) (cmp_pos_neg q2)).symm
    · rename_i q1 q2
      refine ⟨i + 1, ⟨by omega, fun j hj => ?_⟩, by omega, ?_⟩
      · rcases Nat.lt_or_eq_of_le (Nat.le_of_lt_succ hj) with h5 | h5
        · exact g2 j h5
        · rw [h5]; exact cmp_npos q2
      · repeat' (first | apply And.intro | exact True.intro | exact Lf.mk (by with_reducible rfl) | apply Lf.mk)
        all_goals (rw [Int.natCast_add]; rfl)
    · rw [sr_t hs]; exact (sortF_iff.2 fun j hj => g2 j (by omega)).symm
noncomputable def msOk (a b : List Rt) : Bool := stairOk a && (stairOk b && decide (a.length = b.length))
noncomputable def msRes (a b : List Rt) : List Rt × Bool := match msOk a b with
  | true => (mergeR a b a.length, true)
  | false => ([], false)
theorem ms_t {a b : List Rt} (h : stairOk a = true) (h2 : stairOk b = true) (h3 : a.length = b.length) : msRes a b = (mergeR a b a.length, true) := by unfold msRes msOk; rw [h, h2, decide_eq_true h3]; rfl
theorem ms_f1 {a b : List Rt} (h : stairOk a = false) : msRes a b = ([], false) := by unfold msRes msOk; rw [h]; rfl
theorem ms_f2 {a b : List Rt} (h : stairOk b = false) : msRes a b = ([], false) := by unfold msRes msOk; rw [h]; cases stairOk a <;> rfl
theorem ms_f3 {a b : List Rt} (h : ¬ a.length = b.length) : msRes a b = ([], false) := by unfold msRes msOk; rw [decide_eq_false h]; cases stairOk a <;> cases stairOk b <;> rfl
theorem ms_len (a b : List Rt) : (msRes a b).1.length ≤ 21 := by
  cases h : msOk a b with
  | false => unfold msRes; rw [h]; exact Nat.zero_le _
  | true =>
    unfold msRes; rw [h]
    dsimp only
    rw [mergeR_length]
    unfold msOk at h
    rw [Bool.and_eq_true] at h
    exact (stair_len h.1).2
noncomputable def s_impl_MergeStairs : Sig := ⟨19, [.list .rat, .list .rat], [.list 30 .rat, .val .bool], fun ((a : List Rt), (b : List Rt), _) => ⟨[], ((msRes a b).1, (msRes a b).2, ()), ()⟩⟩
noncomputable def s_spec_MergeStairs : Sig := ⟨20, [.list .rat, .list .rat], [.list 30 .rat, .val .bool], fun ((a : List Rt), (b : List Rt), _) => ⟨[], ((msRes a b).1, (msRes a b).2, ()), ()⟩⟩
theorem grT {a b : Rt} (h : a.num * b.den < b.num * a.den) : grR a b = b := by unfold grR; rw [if_pos h]
theorem grF {a b : Rt} (h : ¬ a.num * b.den < b.num * a.den) : grR a b = a := by unfold grR; rw [if_neg h]
noncomputable def s_impl_greater : Sig := ⟨38, [.val .rat, .val .rat], [.val .rat], fun ((a : Rt), (b : Rt), _) => ⟨[goodRt a = true, goodRt b = true], (grR a b, ()), ()⟩⟩
noncomputable def s_spec_ivGreater : Sig := ⟨39, [.val .rat, .val .rat], [.val .rat], fun ((a : Rt), (b : Rt), _) => ⟨[goodRt a = true, goodRt b = true], (grR a b, ()), ()⟩⟩
theorem ok_impl_greater : GSpec Tryz.prog s_impl_greater := by
  refine fn_known tab_ok fol (Known.nil.cons ok_impl_less (by kernel_rfl)) (by decide) Tryz.func38 ?_
  rintro ⟨⟨(n : Int), (d : Int)⟩, ⟨(m : Int), (e : Int)⟩, ⟨⟩⟩ - ⟨h1, h2, _⟩
  repeat' (first | with_reducible apply andAll_cons | with_reducible apply andAll_nil | (with_reducible apply Cf.mk; kernel_rfl) | apply And.intro | intro _ | exact True.intro | apply Lf.mk)
  all_goals (try simp only [Bool.not_eq_true', Bool.not_eq_false', Bool.not_not, decide_eq_true_eq, decide_eq_false_iff_not, beq_iff_eq, bne_iff_ne, beq_eq_false_iff_ne, bne_eq_false_iff_eq, ne_eq, Bool.and_eq_true, Bool.and_eq_false_iff, Bool.or_eq_true, Bool.or_eq_false_iff, Int.toNat_natCast, Nat.zero_add, Int.ofNat_lt, Int.ofNat_le, List.length_cons, List.length_nil, List.drop_zero, List.take_length] at *)
  all_goals first | assumption | exact (grT (of_decide_eq_true (by assumption : lessRt _ _ = true))).symm | exact (grF (of_decide_eq_false (by assumption : lessRt _ _ = false))).symm
theorem ok_spec_ivGreater : GSpec Tryz.prog s_spec_ivGreater := by
  refine fn_known tab_ok fol (Known.nil.cons ok_spec_raCmp (by kernel_rfl)) (by decide) Tryz.func39 ?_
  rintro ⟨⟨(n : Int), (d : Int)⟩, ⟨(m : Int), (e : Int)⟩, ⟨⟩⟩ - ⟨h1, h2, _⟩
  repeat' (first | with_reducible apply andAll_cons | with_reducible apply andAll_nil | (with_reducible apply Cf.mk; kernel_rfl) | apply And.intro | intro _ | exact True.intro | apply Lf.mk)
  all_goals (try simp only [Bool.not_eq_true', Bool.not_eq_false', Bool.not_not, decide_eq_true_eq, decide_eq_false_iff_not, beq_iff_eq, bne_iff_ne, beq_eq_false_iff_ne, bne_eq_false_iff_eq, ne_eq, Bool.and_eq_true, Bool.and_eq_false_iff, Bool.or_eq_true, Bool.or_eq_false_iff, Int.toNat_natCast, Nat.zero_add, Int.ofNat_lt, Int.ofNat_le, List.length_cons, List.length_nil, List.drop_zero, List.take_length] at *)
  all_goals first | assumption | exact (grT (cmpRt_neg.1 (by assumption))).symm | exact (grF (fun h => (by assumption : ¬ cmpRt _ _ < 0) (cmpRt_neg.2 h))).symm
theorem ok_impl_MergeStairs : GSpec Tryz.prog s_impl_MergeStairs := by
  refine fn_known tab_ok fol ((Known.nil.cons ok_impl_isStair (by kernel_rfl)).cons ok_impl_greater (by kernel_rfl)) (by decide) Tryz.func19 ?_
  rintro ⟨(a : List Rt), (b : List Rt), ⟨⟩⟩ - -
  repeat' (first | with_reducible apply andAll_cons | with_reducible apply andAll_nil | (with_reducible apply Cf.mk; kernel_rfl) | apply And.intro | intro _ | exact True.intro | apply Lf.mk)
  all_goals (try simp only [Bool.not_eq_true', Bool.not_eq_false', Bool.not_not, decide_eq_true_eq, decide_eq_false_iff_not, beq_iff_eq, bne_iff_ne, beq_eq_false_iff_ne, bne_eq_false_iff_eq, ne_eq, Bool.and_eq_true, Bool.and_eq_false_iff, Bool.or_eq_true, Bool.or_eq_false_iff, Int.toNat_natCast, Nat.zero_add, Int.ofNat_lt, Int.ofNat_le, List.length_cons, List.length_nil, List.drop_zero, List.take_length] at *)
  all_goals first
    | omega
    | contradiction
    | assumption
    | (rw [ms_f1 (by assumption)]; done)
    | (rw [ms_f2 (by assumption)]; done)
    | (rw [ms_f3 (by omega)]; done)
    | skip
  refine ⟨Nat, fun i => ⟨[(25, .sc (.num .i64 i)), (6, .sc (.own 7777777))], [100000, 100001], [(7777777, .row 30 .rat (mergeR a b i))]⟩, fun i => i ≤ a.length, fun i => a.length - i, ⟨0, Nat.zero_le _, ?_⟩, ?_⟩
  · repeat' (first | apply And.intro | exact True.intro | exact Lf.mk (by with_reducible rfl) | apply Lf.mk)
    all_goals first | rfl | simp
  · intro i g1
    have hm := mergeR_length a b i
    repeat' (first | with_reducible apply andAll_cons | with_reducible apply andAll_nil | (with_reducible apply Cf.mk; kernel_rfl) | apply And.intro | intro _ | exact True.intro | apply Lf.mk)
    all_goals (try simp only [Bool.not_eq_true', Bool.not_eq_false', Bool.not_not, decide_eq_true_eq, decide_eq_false_iff_not, beq_iff_eq, bne_iff_ne, beq_eq_false_iff_ne, bne_eq_false_iff_eq, ne_eq, Bool.and_eq_true, Bool.and_eq_false_iff, Bool.or_eq_true, Bool.or_eq_false_iff, Int.toNat_natCast, Nat.zero_add, Int.ofNat_lt, Int.ofNat_le, List.length_cons, List.length_nil, List.drop_zero, List.take_length] at *)
    all_goals
      have p1 := stair_len (by assumption : stairOk a = true)
      first
        | omega
        | exact stair_get (by assumption : stairOk a = true) (by omega)
        | exact stair_get (by assumption : stairOk b = true) (by omega)
        | (show (_ + 1) * 16 ≤ 140737488355328; omega)
        | (rw [ms_t (by assumption) (by assumption) (by omega), show i = a.length by omega]; done)
        | (rw [ms_t (by assumption) (by assumption) (by omega)]; done)
        | skip
    refine ⟨i + 1, by omega, by omega, ?_⟩
    repeat' (first | apply And.intro | exact True.intro | exact Lf.mk (by with_reducible rfl) | apply Lf.mk)
    all_goals first | (rw [Int.natCast_add]; rfl) | exact mergeR_succ a b i
theorem ok_spec_MergeStairs : GSpec Tryz.prog s_spec_MergeStairs := by
  refine fn_known tab_ok fol ((Known.nil.cons ok_spec_lkStair (by kernel_rfl)).cons ok_spec_ivGreater (by kernel_rfl)) (by decide) Tryz.func20 ?_
  rintro ⟨(a : List Rt), (b : List Rt), ⟨⟩⟩ - -
  repeat' (first | with_reducible apply andAll_cons | with_reducible apply andAll_nil | (with_reducible apply Cf.mk; kernel_rfl) | apply And.intro | intro _ | exact True.intro | apply Lf.mk)
  all_goals (try simp only [Bool.not_eq_true', Bool.not_eq_false', Bool.not_not, decide_eq_true_eq, decide_eq_false_iff_not, beq_iff_eq, bne_iff_ne, beq_eq_false_iff_ne, bne_eq_false_iff_eq, ne_eq, Bool.and_eq_true, Bool.and_eq_false_iff, Bool.or_eq_true, Bool.or_eq_false_iff, Int.toNat_natCast, Nat.zero_add, Int.ofNat_lt, Int.ofNat_le, List.length_cons, List.length_nil, List.drop_zero, List.take_length] at *)
  all_goals first
    | omega
    | contradiction
    | assumption
    | (rw [ms_f1 (by assumption)]; done)
    | (rw [ms_f2 (by assumption)]; done)
    | (rw [ms_f3 (by omega)]; done)
    | skip
  refine ⟨Nat, fun i => ⟨[(26, .sc (.num .i64 i)), (6, .sc (.own 7777777))], [100000, 100001], [(7777777, .row 30 .rat (mergeR a b i))]⟩, fun i => i ≤ a.length, fun i => a.length - i, ⟨0, Nat.zero_le _, ?_⟩, ?_⟩
  · repeat' (first | apply And.intro | exact True.intro | exact Lf.mk (by with_reducible rfl) | apply Lf.mk)
    all_goals first | rfl | simp
  · intro i g1
    have hm := mergeR_length a b i
    repeat' (first | with_reducible apply andAll_cons | with_reducible apply andAll_nil | (with_reducible apply Cf.mk; kernel_rfl) | apply And.intro | intro _ | exact True.intro | apply Lf.mk)
    all_goals (try simp only [Bool.not_eq_true', Bool.not_eq_false', Bool.not_not, decide_eq_true_eq, decide_eq_false_iff_not, beq_iff_eq, bne_iff_ne, beq_eq_false_iff_ne, bne_eq_false_iff_eq, ne_eq, Bool.and_eq_true, Bool.and_eq_false_iff, Bool.or_eq_true, Bool.or_eq_false_iff, Int.toNat_natCast, Nat.zero_add, Int.ofNat_lt, Int.ofNat_le, List.length_cons, List.length_nil, List.drop_zero, List.take_length] at *)
    all_goals
      have p1 := stair_len (by assumption : stairOk a = true)
      first
        | omega
        | exact stair_get (by assumption : stairOk a = true) (by omega)
        | exact stair_get (by assumption : stairOk b = true) (by omega)
        | (show (_ + 1) * 16 ≤ 140737488355328; omega)
        | (rw [ms_t (by assumption) (by assumption) (by omega), show i = a.length by omega]; done)
        | (rw [ms_t (by assumption) (by assumption) (by omega)]; done)
        | skip
    refine ⟨i + 1, by omega, by omega, ?_⟩
    repeat' (first | apply And.intro | exact True.intro | exact Lf.mk (by with_reducible rfl) | apply Lf.mk)
    all_goals first | (rw [Int.natCast_add]; rfl) | exact mergeR_succ a b i
end Go.Vx
