/- Stairs: the program's functions and the reference's. -/
import Derived.Test.YtfnfbomnijlhcaaDoorVpStair
import Derived.Test.YtfnfbomnijlhcaaDoorVxP
namespace Go.Vx
open Go Go.Proofs
set_option maxRecDepth 100000
set_option linter.unusedSimpArgs false
set_option linter.unusedVariables false

/-- a stair: 1 to 21 valid fractions -/
noncomputable def stairOk (l : List Rt) : Bool := inB l.length 1 21 && l.all goodRt
theorem stair_len {l : List Rt} (h : stairOk l = true) : 1 ≤ l.length ∧ l.length ≤ 21 := by
  unfold stairOk inB at h
  rw [Bool.and_eq_true, decide_eq_true_eq] at h
  omega
theorem stair_all {l : List Rt} (h : stairOk l = true) : ∀ x ∈ l, goodRt x = true := by
  unfold stairOk at h
  rw [Bool.and_eq_true, List.all_eq_true] at h
  exact h.2
theorem stair_get {l : List Rt} (h : stairOk l = true) {i : Nat} (hi : i < l.length) : goodRt (getA zR l i) = true := stair_all h _ (getA_mem _ hi)
noncomputable def s_impl_isStair : Sig := ⟨60, [.list .rat], [.val .bool], fun ((l : List Rt), _) => ⟨[], (stairOk l, ()), ()⟩⟩
noncomputable def s_spec_lkStair : Sig := ⟨57, [.list .rat], [.val .bool], fun ((l : List Rt), _) => ⟨[], (stairOk l, ()), ()⟩⟩
theorem ok_impl_isStair : GSpec Tryd.prog s_impl_isStair := by
  refine fn_known tab_ok fol ((Known.nil.cons ok_impl_within (by kernel_rfl)).cons ok_impl_areRats (by kernel_rfl)) (by decide) Tryd.func60 ?_
  rintro ⟨(l : List Rt), ⟨⟩⟩ ⟨hl, _⟩ _
  have hl : l.length ≤ 9223372036854775807 := hl
  repeat' (first | with_reducible apply andAll_cons | with_reducible apply andAll_nil | (with_reducible apply Cf.mk; kernel_rfl) | apply And.intro | intro _ | exact True.intro | apply Lf.mk)
  all_goals (try simp only [Bool.not_eq_true', Bool.not_eq_false', Bool.not_not, decide_eq_true_eq, decide_eq_false_iff_not, beq_iff_eq, bne_iff_ne, beq_eq_false_iff_ne, bne_eq_false_iff_eq, ne_eq, Bool.and_eq_true, Bool.and_eq_false_iff, Bool.or_eq_true, Bool.or_eq_false_iff, Int.toNat_natCast, Nat.zero_add, Int.ofNat_lt, Int.ofNat_le, List.length_cons, List.length_nil, List.drop_zero, List.take_length] at *)
  all_goals first | omega | rfl | (unfold stairOk; rw [(by assumption : inB _ _ _ = _)]; rfl) | (unfold stairOk; rw [(by assumption : inB _ _ _ = _)]; simp)
theorem ok_spec_lkStair : GSpec Tryd.prog s_spec_lkStair := by
  refine fn_known tab_ok fol ((Known.nil.cons ok_spec_raGood (by kernel_rfl)).cons ok_spec_l1In (by kernel_rfl)) (by decide) Tryd.func57 ?_
  rintro ⟨(l : List Rt), ⟨⟩⟩ ⟨hl, _⟩ _
  have hl : l.length ≤ 9223372036854775807 := hl
  refine ⟨Nat, fun i => ⟨[(7, .sc (.num .i64 i))], [100000], []⟩, fun i => i ≤ l.length ∧ (l.take i).all goodRt = true, fun i => l.length - i, ⟨0, ⟨Nat.zero_le _, rfl⟩, ?_⟩, ?_⟩
  · repeat' (first | apply And.intro | exact True.intro | exact Lf.mk (by with_reducible rfl) | apply Lf.mk)
    all_goals rfl
  · rintro i ⟨g1, g2⟩
    repeat' (first | with_reducible apply andAll_cons | with_reducible apply andAll_nil | (with_reducible apply Cf.mk; kernel_rfl) | apply And.intro | intro _ | exact True.intro | apply Lf.mk)
    all_goals (try simp only [Bool.not_eq_true', Bool.not_eq_false', Bool.not_not, decide_eq_true_eq, decide_eq_false_iff_not, beq_iff_eq, bne_iff_ne, beq_eq_false_iff_ne, bne_eq_false_iff_eq, ne_eq, Bool.and_eq_true, Bool.and_eq_false_iff, Bool.or_eq_true, Bool.or_eq_false_iff, Int.toNat_natCast, Nat.zero_add, Int.ofNat_lt, Int.ofNat_le, List.length_cons, List.length_nil, List.drop_zero, List.take_length] at *)
    all_goals first | omega | skip
    · unfold stairOk
      rw [all_false_of _ zR l i (by assumption) (by assumption)]; simp
    · refine ⟨i + 1, ⟨by omega, ?_⟩, by omega, ?_⟩
      · rw [all_take_succ _ zR l i (by assumption), g2]; simpa using (by assumption)
      · repeat' (first | apply And.intro | exact True.intro | exact Lf.mk (by with_reducible rfl) | apply Lf.mk)
        all_goals (rw [Int.natCast_add]; rfl)
    · rw [List.take_of_length_le (by omega)] at g2
      unfold stairOk; rw [g2]; simp
theorem set_new {α : Type} (d : Int) (c : List Int) {k : Nat} (h : k = c.length) : (c ++ [0]).set k (getA d (c ++ [0]) k + 1) = c ++ [1] := by
  subst h; rw [getA_app_last, set_app_last]; rfl
theorem st_new {l : List Rt} {i : Nat} (h : i < l.length) (h2 : 0 < (stL l i).1.length → getA zR (stL l i).1 ((stL l i).1.length - 1) ≠ getA zR l i) : stL l (i + 1) = ((stL l i).1 ++ [getA zR l i], (stL l i).2 ++ [1]) := by
  rw [stL_succ h, stF_miss h2]
theorem st_hit {l : List Rt} {i : Nat} (h : i < l.length) (h0 : 0 < (stL l i).1.length) (h2 : getA zR (stL l i).1 ((stL l i).1.length - 1) = getA zR l i) : stL l (i + 1) = ((stL l i).1, (stL l i).2.set ((stL l i).2.length - 1) (getA 0 (stL l i).2 ((stL l i).2.length - 1) + 1)) := by
  rw [stL_succ h, stF_hit h0 h2]
theorem eqRt_t {a b : Rt} (h : eqRt a b = true) : a = b := of_decide_eq_true h
theorem eqRt_f {a b : Rt} (h : eqRt a b = false) : a ≠ b := of_decide_eq_false h
theorem bif_t {P Q : Bool} (h : (bif P then true else !Q) = true) (h2 : P = false) : Q = false := by revert h h2; cases P <;> cases Q <;> decide
theorem bif_f {P Q : Bool} (h : (bif P then true else !Q) = false) : Q = true := by revert h; cases P <;> cases Q <;> decide
theorem bE2 {P Q : Bool} (h : (bif P then Q else false) = true) : Q = true := by revert h; cases P <;> cases Q <;> decide
noncomputable def ssRes (l : List Rt) : List Rt × List Int × Bool := match stairOk l with
  | true => ((stL l l.length).1, (stL l l.length).2, true)
  | false => ([], [], false)
theorem ss_t {l : List Rt} (h : stairOk l = true) : ssRes l = ((stL l l.length).1, (stL l l.length).2, true) := by unfold ssRes; rw [h]
theorem ss_f {l : List Rt} (h : stairOk l = false) : ssRes l = ([], [], false) := by unfold ssRes; rw [h]
theorem ss_len (l : List Rt) : (ssRes l).1.length ≤ 21 ∧ (ssRes l).2.1.length ≤ 21 := by
  cases h : stairOk l with
  | false => rw [ss_f h]; exact ⟨Nat.zero_le _, Nat.zero_le _⟩
  | true =>
    rw [ss_t h]
    have := stair_len h
    obtain ⟨i1, i2, i3, i4⟩ := stL_inv l l.length (Nat.le_refl _)
    exact ⟨by dsimp only; omega, by dsimp only; omega⟩
noncomputable def wsRes (l : List Rt) : Rt × Int × Bool := match stairOk l with
  | true => (getA zR (stL l l.length).1 (bestF (stL l l.length).2 (stL l l.length).2.length), getA 0 (stL l l.length).2 (bestF (stL l l.length).2 (stL l l.length).2.length), true)
  | false => (⟨0, 0⟩, 0, false)
theorem ws_t {l : List Rt} (h : stairOk l = true) : wsRes l = (getA zR (stL l l.length).1 (bestF (stL l l.length).2 (stL l l.length).2.length), getA 0 (stL l l.length).2 (bestF (stL l l.length).2 (stL l l.length).2.length), true) := by unfold wsRes; rw [h]
theorem ws_f {l : List Rt} (h : stairOk l = false) : wsRes l = (⟨0, 0⟩, 0, false) := by unfold wsRes; rw [h]
theorem bestF_lt {l : List Int} {i : Nat} (h : 0 < l.length) (hi : i ≤ l.length) : bestF l i < l.length := by
  rcases Nat.eq_zero_or_pos i with h0 | h0
  · subst h0; exact h
  · have := (bestF_spec l i h0 hi).1; omega
theorem best_t {l : List Int} {i : Nat} (h : getA (0 : Int) l (bestF l i) < getA (0 : Int) l i) : bestF l (i + 1) = i := by rw [bestF, if_pos h]
theorem best_f {l : List Int} {i : Nat} (h : ¬ getA (0 : Int) l (bestF l i) < getA (0 : Int) l i) : bestF l (i + 1) = bestF l i := by rw [bestF, if_neg h]
theorem sort_no {α : Type} {d : α} {c : α → α → Int} {l : List α} {i : Nat} (h : i + 1 < l.length) (h2 : c (getA d l (i + 1)) (getA d l i) < 0) : sortF d c l = false := by
  rw [Bool.eq_false_iff]; intro h3; exact sortF_iff.1 h3 i h h2
noncomputable def srRes (l : List Rt) : Bool × Bool := match stairOk l with
  | true => (sortF zR cmpRt l, true)
  | false => (false, false)
theorem sr_t {l : List Rt} (h : stairOk l = true) : srRes l = (sortF zR cmpRt l, true) := by unfold srRes; rw [h]
theorem sr_f {l : List Rt} (h : stairOk l = false) : srRes l = (false, false) := by unfold srRes; rw [h]
theorem cmp_pos_neg {a b : Rt} (h : 0 < cmpRt a b) : cmpRt b a < 0 := by rw [cmpRt_swap]; omega
theorem cmp_npos {a b : Rt} (h : ¬ 0 < cmpRt a b) : ¬ cmpRt b a < 0 := by rw [cmpRt_swap]; omega
noncomputable def msOk (a b : List Rt) : Bool := stairOk a && (stairOk b && decide (a.length = b.length))
noncomputable def msRes (a b : List Rt) : List Rt × Bool := match msOk a b with
  | true => (mergeR a b a.length, true)
  | false => ([], false)
theorem ms_t {a b : List Rt} (h : stairOk a = true) (h2 : stairOk b = true) (h3 : a.length = b.length) : msRes a b = (mergeR a b a.length, true) := by unfold msRes msOk; rw [h, h2, decide_eq_true h3]; rfl
theorem ms_f1 {a b : List Rt} (h : stairOk a = false) : msRes a b = ([], false) := by unfold msRes msOk; rw [h]; rfl
theorem ms_f2 {a b : List Rt} (h : stairOk b = false) : msRes a b = ([], false) := by unfold msRes msOk; rw [h]; cases stairOk a <;> rfl
theorem ms_f3 {a b : List Rt} (h : ¬ a.length = b.length) : msRes a b = ([], false) := by unfold msRes msOk; rw [decide_eq_false h]; cases stairOk a <;> cases stairOk b <;> rfl
theorem ms_len (a b : List Rt) : (msRes a b).1.length ≤ 21 := by
  cases h : msOk a b with
  | false => unfold msRes; rw [h]; exact Nat.zero_le _
  | true =>
    unfold msRes; rw [h]
    dsimp only
    rw [mergeR_length]
    unfold msOk at h
    rw [Bool.and_eq_true] at h
    exact (stair_len h.1).2
theorem grT {a b : Rt} (h : a.num * b.den < b.num * a.den) : grR a b = b := by unfold grR; rw [if_pos h]
theorem grF {a b : Rt} (h : ¬ a.num * b.den < b.num * a.den) : grR a b = a := by unfold grR; rw [if_neg h]
end Go.Vx
