/- When a change is a conjugacy: the program's function and the reference's. -/
import Derived.Test.YtnikhgdopdagmaaGreatVpIc
import Derived.Test.YtnikhgdopdagmaaGreatVxTp
namespace Go.Vx
open Go Go.Proofs
set_option maxRecDepth 100000
set_option linter.unusedSimpArgs false
set_option linter.unusedVariables false

noncomputable def s_spec_cjTwice : Sig := ⟨29, [.list .pt, .list .pt, .val .rat], [.val .rat, .val .bool], fun ((f : List Pt), (h : List Pt), (x : Rt), _) => ⟨[mapOk f = true, mapOk h = true, unitRt x = true], ((twR f h x).1, (twR f h x).2, ()), ()⟩⟩
theorem ok_spec_cjTwice : GSpec Tryz.prog s_spec_cjTwice := by
  refine fn_known tab_ok fol (Known.nil.cons ok_spec_imAt (by kernel_rfl)) (by decide) Tryz.func29 ?_
  rintro ⟨(f : List Pt), (h : List Pt), ⟨(n : Int), (d : Int)⟩, ⟨⟩⟩ - ⟨h1, h2, h3, _⟩
  repeat' (first | with_reducible apply andAll_cons | with_reducible apply andAll_nil | (with_reducible apply Cf.mk; kernel_rfl) | apply And.intro | intro _ | exact True.intro | apply Lf.mk)
  all_goals (try simp only [Bool.not_eq_true', Bool.not_eq_false', Bool.not_not, decide_eq_true_eq, decide_eq_false_iff_not, beq_iff_eq, bne_iff_ne, beq_eq_false_iff_ne, bne_eq_false_iff_eq, ne_eq, Bool.and_eq_true, Bool.and_eq_false_iff, Bool.or_eq_true, Bool.or_eq_false_iff, Int.toNat_natCast, Nat.zero_add, Int.ofNat_lt, Int.ofNat_le, List.length_cons, List.length_nil, List.drop_zero, List.take_length] at *)
  all_goals first | exact h1 | exact h2 | exact h3 | exact vR_unit h1 h3 (by assumption) | (rw [twR_f (by assumption)]; done) | (rw [twR_t (by assumption)]; rfl) | (rw [twR_t (by assumption)]; done) | trace_state
noncomputable def s_impl_IsConjugacy : Sig := ⟨21, [.list .pt, .list .pt, .list .pt], [.val .bool, .val .bool], fun ((f : List Pt), (g : List Pt), (h : List Pt), _) => ⟨[], ((cjRes f g h).1, (cjRes f g h).2, ()), ()⟩⟩
theorem ok_impl_IsConjugacy : GSpec Tryz.prog s_impl_IsConjugacy := by
  refine fn_known tab_ok fol ((Known.nil.cons ok_impl_TestPoints (by kernel_rfl)).cons ok_calc_value (by kernel_rfl)) (by decide) Tryz.func21 ?_
  rintro ⟨(f : List Pt), (g : List Pt), (h : List Pt), ⟨⟩⟩ ⟨hl, hl2, hl3, _⟩ -
  have q0 := tpsR_len f g h
  repeat' (first | with_reducible apply andAll_cons | with_reducible apply andAll_nil | (with_reducible apply Cf.mk; kernel_rfl) | apply And.intro | intro _ | exact True.intro | apply Lf.mk)
  all_goals (try simp only [Bool.not_eq_true', Bool.not_eq_false', Bool.not_not, decide_eq_true_eq, decide_eq_false_iff_not, beq_iff_eq, bne_iff_ne, beq_eq_false_iff_ne, bne_eq_false_iff_eq, ne_eq, Bool.and_eq_true, Bool.and_eq_false_iff, Bool.or_eq_true, Bool.or_eq_false_iff, Int.toNat_natCast, Nat.zero_add, Int.ofNat_lt, Int.ofNat_le, List.length_cons, List.length_nil, List.drop_zero, List.take_length] at *)
  all_goals first | (rw [tpsR_no (by assumption)]; done) | skip
  rename_i h0
  obtain ⟨h1, h2, h3⟩ := tpsR_ok h0
  obtain ⟨m1, m2, m3⟩ := tpsOk_iff.1 h1
  have m4 := (chOk_iff.1 m3).1
  have hu : ∀ x ∈ (tpsR f g h).1, unitRt x = true := fun x hx => by rw [h3] at hx; exact tp_unit m1 m2 m3 h2 hx
  refine ⟨Nat, fun i => ⟨[(25, .sc (.num .i64 i)), (11, .sc (.bool (icL f g h (tpsR f g h).1 i)))], [200180, 100000, 100001, 100002], [(10, .box cT [.bool (!icG f g h (tpsR f g h).1 i)])]⟩, fun i => i ≤ (tpsR f g h).1.length, fun i => (tpsR f g h).1.length - i, ⟨0, Nat.zero_le _, ?_⟩, ?_⟩
  · have e1 := icL_zero f g h (tpsR f g h).1
    have e2 := icG_zero f g h (tpsR f g h).1
    repeat' (first | apply And.intro | exact True.intro | exact Lf.mk (by with_reducible rfl) | apply Lf.mk)
    all_goals first | rfl | (rw [e1]; done) | (rw [e2]; rfl) | exact e1.symm | trace_state
  · rintro i g1
    have q1 : i < (tpsR f g h).1.length → unitRt (getA zR (tpsR f g h).1 i) = true := fun hi => hu _ (getA_mem _ hi)
    have q2 : i < (tpsR f g h).1.length → unitRt (vO f (getA zR (tpsR f g h).1 i)) = true := fun hi => vO_unit m1 (q1 hi)
    have q3 : i < (tpsR f g h).1.length → unitRt (vO h (getA zR (tpsR f g h).1 i)) = true := fun hi => vO_unit m4 (q1 hi)
    have q4 := @ic_flag f g h (tpsR f g h).1 i
    have q5 := icL_succ f g h (tpsR f g h).1 i
    repeat' (first | with_reducible apply andAll_cons | with_reducible apply andAll_nil | (with_reducible apply Cf.mk; kernel_rfl) | apply And.intro | intro _ | exact True.intro | apply Lf.mk)
    all_goals (try simp only [Bool.not_eq_true', Bool.not_eq_false', Bool.not_not, decide_eq_true_eq, decide_eq_false_iff_not, beq_iff_eq, bne_iff_ne, beq_eq_false_iff_ne, bne_eq_false_iff_eq, ne_eq, Bool.and_eq_true, Bool.and_eq_false_iff, Bool.or_eq_true, Bool.or_eq_false_iff, Int.toNat_natCast, Nat.zero_add, Int.ofNat_lt, Int.ofNat_le, List.length_cons, List.length_nil, List.drop_zero, List.take_length] at *)
    all_goals first | omega | exact m1 | exact m2 | exact m4 | exact q1 (by assumption) | exact q2 (by assumption) | exact q3 (by assumption) | skip
    · rename_i h5 h6
      have h7 : eqRt (twO f h (getA zR (tpsR f g h).1 i)) (twO h g (getA zR (tpsR f g h).1 i)) = true := by unfold twO; exact h6
      rw [h7] at q5
      refine ⟨i + 1, Nat.succ_le_of_lt h5, Nat.sub_succ_lt_self _ _ h5, ?_⟩
      repeat' (first | apply And.intro | exact True.intro | exact Lf.mk (by with_reducible rfl) | apply Lf.mk)
      all_goals first | rfl | exact q4 | (rw [Int.natCast_add]; rfl) | (rw [q5, Bool.and_true]; done) | (rw [q5, Bool.and_true]; unfold twO at h7; rw [show eqRt _ _ = true from h6]; rfl) | trace_state
    · rename_i h5 h6
      have h7 : eqRt (twO f h (getA zR (tpsR f g h).1 i)) (twO h g (getA zR (tpsR f g h).1 i)) = false := by unfold twO; exact h6
      rw [h7] at q5
      refine ⟨i + 1, Nat.succ_le_of_lt h5, Nat.sub_succ_lt_self _ _ h5, ?_⟩
      repeat' (first | apply And.intro | exact True.intro | exact Lf.mk (by with_reducible rfl) | apply Lf.mk)
      all_goals first | rfl | exact q4 | (rw [Int.natCast_add]; rfl) | (rw [q5, Bool.and_false]; done) | (rw [q5, Bool.and_false]; rw [show eqRt _ _ = false from h6]; rfl) | trace_state
    all_goals (have e : i = (tpsR f g h).1.length := Nat.le_antisymm g1 (Nat.not_lt.1 (by assumption)))
    all_goals (rw [cjRes_t h1, icR_t h2])
    all_goals first
      | (rw [icsR_f (show icG f g h (tpO f g h) (tpO f g h).length = false by rw [← h3, ← e]; assumption)]; done)
      | (rw [icsR_t (show icG f g h (tpO f g h) (tpO f g h).length = true by rw [← h3, ← e]; assumption), e, h3]; done)
      | (rw [icsR_t (show icG f g h (tpO f g h) (tpO f g h).length = true by rw [← h3, ← e]; assumption)]; done)
      | trace_state

noncomputable def s_spec_cjIs : Sig := ⟨16, [.list .pt, .list .pt, .list .pt], [.val .bool, .val .bool], fun ((f : List Pt), (g : List Pt), (h : List Pt), _) => ⟨[mapOk f = true, mapOk g = true, chOk h = true], ((icR f g h).1, (icR f g h).2, ()), ()⟩⟩
theorem ok_spec_cjIs : GSpec Tryz.prog s_spec_cjIs := by
  refine fn_known tab_ok fol ((Known.nil.cons ok_spec_cjTests (by kernel_rfl)).cons ok_spec_cjTwice (by kernel_rfl)) (by decide) Tryz.func16 ?_
  rintro ⟨(f : List Pt), (g : List Pt), (h : List Pt), ⟨⟩⟩ ⟨hl, hl2, hl3, _⟩ ⟨m1, m2, m3, _⟩
  have m4 := (chOk_iff.1 m3).1
  have q0 := tpO_len m1 m2 m4
  repeat' (first | with_reducible apply andAll_cons | with_reducible apply andAll_nil | (with_reducible apply Cf.mk; kernel_rfl) | apply And.intro | intro _ | exact True.intro | apply Lf.mk)
  all_goals (try simp only [Bool.not_eq_true', Bool.not_eq_false', Bool.not_not, decide_eq_true_eq, decide_eq_false_iff_not, beq_iff_eq, bne_iff_ne, beq_eq_false_iff_ne, bne_eq_false_iff_eq, ne_eq, Bool.and_eq_true, Bool.and_eq_false_iff, Bool.or_eq_true, Bool.or_eq_false_iff, Int.toNat_natCast, Nat.zero_add, Int.ofNat_lt, Int.ofNat_le, List.length_cons, List.length_nil, List.drop_zero, List.take_length] at *)
  all_goals first | exact m1 | exact m2 | exact m3 | (rw [icR_f (by rw [← tpR_2]; assumption)]; done) | skip
  rename_i h0
  have h2 : tpG f g h = true := by rw [← tpR_2]; exact h0
  have h3 : (tpR f g h).1 = tpO f g h := by rw [tpR_t h2]
  have q00 : (tpR f g h).1.length ≤ 324 := by rw [h3]; exact q0
  have hu : ∀ x ∈ (tpR f g h).1, unitRt x = true := fun x hx => by rw [h3] at hx; exact tp_unit m1 m2 m3 h2 hx
  refine ⟨Nat, fun i => ⟨[(28, .sc (.num .i64 i)), (10, .sc (.bool (icL f g h (tpR f g h).1 i)))], [200210, 100000, 100001, 100002], []⟩, fun i => i ≤ (tpR f g h).1.length ∧ icG f g h (tpR f g h).1 i = true, fun i => (tpR f g h).1.length - i, ⟨0, ⟨Nat.zero_le _, icG_zero ..⟩, ?_⟩, ?_⟩
  · have e1 := icL_zero f g h (tpR f g h).1
    repeat' (first | apply And.intro | exact True.intro | exact Lf.mk (by with_reducible rfl) | apply Lf.mk)
    all_goals first | rfl | (rw [e1]; done) | exact e1.symm | trace_state
  · rintro i ⟨g1, g2⟩
    have q1 : i < (tpR f g h).1.length → unitRt (getA zR (tpR f g h).1 i) = true := fun hi => hu _ (getA_mem _ hi)
    have q5 := icL_succ f g h (tpR f g h).1 i
    have q6 := icG_succ f g h (tpR f g h).1 i
    repeat' (first | with_reducible apply andAll_cons | with_reducible apply andAll_nil | (with_reducible apply Cf.mk; kernel_rfl) | apply And.intro | intro _ | exact True.intro | apply Lf.mk)
    all_goals (try simp only [Bool.not_eq_true', Bool.not_eq_false', Bool.not_not, decide_eq_true_eq, decide_eq_false_iff_not, beq_iff_eq, bne_iff_ne, beq_eq_false_iff_ne, bne_eq_false_iff_eq, ne_eq, Bool.and_eq_true, Bool.and_eq_false_iff, Bool.or_eq_true, Bool.or_eq_false_iff, Int.toNat_natCast, Nat.zero_add, Int.ofNat_lt, Int.ofNat_le, List.length_cons, List.length_nil, List.drop_zero, List.take_length] at *)
    all_goals first | omega | exact m1 | exact m2 | exact m4 | exact q1 (by assumption) | skip
    all_goals (try have hlt : i < (tpR f g h).1.length := (by assumption))
    all_goals first
      | (have hb : (twR h g (getA zR (tpR f g h).1 i)).2 = false := by assumption
         have hc : icG f g h (tpO f g h) (tpO f g h).length = false := by rw [← h3]; exact icG_f hlt (.inr hb)
         rw [icR_t h2, icsR_f hc])
      | (have hb : (twR f h (getA zR (tpR f g h).1 i)).2 = false := by assumption
         have hc : icG f g h (tpO f g h) (tpO f g h).length = false := by rw [← h3]; exact icG_f hlt (.inl hb)
         rw [icR_t h2, icsR_f hc])
      | skip
    · have a1 : (twR f h (getA zR (tpR f g h).1 i)).2 = true := by assumption
      have a2 : (twR h g (getA zR (tpR f g h).1 i)).2 = true := by assumption
      have a3 : icL f g h (tpR f g h).1 i = true := by assumption
      rw [a3, twO_t a1, twO_t a2, Bool.true_and] at q5
      refine ⟨i + 1, ⟨Nat.succ_le_of_lt hlt, by rw [q6, g2, a1, a2]; rfl⟩, Nat.sub_succ_lt_self _ _ hlt, ?_⟩
      repeat' (first | apply And.intro | exact True.intro | exact Lf.mk (by with_reducible rfl) | apply Lf.mk)
      all_goals first | rfl | (rw [Int.natCast_add]; rfl) | exact q5.symm | (rw [a3]; exact q5.symm) | trace_state
    · have a1 : (twR f h (getA zR (tpR f g h).1 i)).2 = true := by assumption
      have a2 : (twR h g (getA zR (tpR f g h).1 i)).2 = true := by assumption
      have a3 : icL f g h (tpR f g h).1 i = false := by assumption
      rw [a3, Bool.false_and] at q5
      refine ⟨i + 1, ⟨Nat.succ_le_of_lt hlt, by rw [q6, g2, a1, a2]; rfl⟩, Nat.sub_succ_lt_self _ _ hlt, ?_⟩
      repeat' (first | apply And.intro | exact True.intro | exact Lf.mk (by with_reducible rfl) | apply Lf.mk)
      all_goals first | rfl | (rw [Int.natCast_add]; rfl) | exact q5.symm | (rw [a3]; exact q5.symm) | trace_state
    all_goals (have e : i = (tpR f g h).1.length := Nat.le_antisymm g1 (Nat.not_lt.1 (by assumption)))
    all_goals (have hc : icG f g h (tpO f g h) (tpO f g h).length = true := by rw [← h3, ← e]; exact g2)
    all_goals rw [icR_t h2, icsR_t hc]
    all_goals first | rfl | (rw [e, h3]; done) | trace_state
end Go.Vx
