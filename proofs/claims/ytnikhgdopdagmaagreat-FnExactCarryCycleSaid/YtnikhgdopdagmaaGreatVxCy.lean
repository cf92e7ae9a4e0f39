/- Cycles, and cycles carried by a change: the program's functions and the reference's. -/
import Derived.Test.YtnikhgdopdagmaaGreatVpCy
import Derived.Test.YtnikhgdopdagmaaGreatVxIc
import Derived.Test.YtnikhgdopdagmaaGreatVxCl
namespace Go.Vx
open Go Go.Proofs
set_option maxRecDepth 100000
set_option linter.unusedSimpArgs false
set_option linter.unusedVariables false

theorem all_unit {l : List Rt} (h : l.all unitRt = true) {i : Nat} (hi : i < l.length) : unitRt (getA zR l i) = true := List.all_eq_true.1 h _ (getA_mem _ hi)
theorem all_gd {l : List Rt} (h : l.all unitRt = true) : Gd l := fun x hx => unit_good (List.all_eq_true.1 h x hx)
noncomputable def s_impl_areDifferent : Sig := ⟨68, [.list .rat], [.val .bool], fun ((l : List Rt), _) => ⟨[0 < l.length, l.length ≤ 1000, ∀ x ∈ l, goodRt x = true], (dfN l l.length, ()), ()⟩⟩
theorem ok_impl_areDifferent : GSpec Tryz.prog s_impl_areDifferent := by
  refine fn_known tab_ok fol ((Known.nil.cons ok_lib_CloneRat (by kernel_rfl)).cons ok_impl_rising (by kernel_rfl)) (by decide) Tryz.func68 ?_
  rintro ⟨(l : List Rt), ⟨⟩⟩ ⟨hl, _⟩ ⟨h1, h2, h3, _⟩
  have h1 : 0 < l.length := h1
  have h2 : l.length ≤ 1000 := h2
  have e := df_eq (l := l) h3
  repeat' (first | with_reducible apply andAll_cons | with_reducible apply andAll_nil | (with_reducible apply Cf.mk; kernel_rfl) | apply And.intro | intro _ | exact True.intro | apply Lf.mk)
  all_goals (try simp only [List.drop_zero, List.take_length] at *)
  all_goals (try simp only [Bool.not_eq_true', Bool.not_eq_false', Bool.not_not, decide_eq_true_eq, decide_eq_false_iff_not, beq_iff_eq, bne_iff_ne, beq_eq_false_iff_ne, bne_eq_false_iff_eq, ne_eq, Bool.and_eq_true, Bool.and_eq_false_iff, Bool.or_eq_true, Bool.or_eq_false_iff, Int.toNat_natCast, Nat.zero_add, Int.ofNat_lt, Int.ofNat_le, List.length_cons, List.length_nil, List.drop_zero, List.take_length] at *)
  all_goals first | omega | exact h3 _ (by assumption) | (rw [← e, Bool.eq_iff_iff, beq_iff_eq, decide_eq_true_eq]; omega) | trace_state
noncomputable def s_impl_isCycle : Sig := ⟨40, [.list .pt, .list .rat], [.val .bool, .val .bool], fun ((f : List Pt), (l : List Rt), _) => ⟨[mapOk f = true, 0 < l.length, l.length ≤ 60, l.all unitRt = true], ((cyR f l).1, (cyR f l).2, ()), ()⟩⟩
theorem ok_impl_isCycle : GSpec Tryz.prog s_impl_isCycle := by
  refine fn_known tab_ok fol ((Known.nil.cons ok_impl_areDifferent (by kernel_rfl)).cons ok_calc_value (by kernel_rfl)) (by decide) Tryz.func40 ?_
  rintro ⟨(f : List Pt), (l : List Rt), ⟨⟩⟩ ⟨hl, hl2, _⟩ ⟨m1, h1, h2, h3, _⟩
  have h1 : 0 < l.length := h1
  have h2 : l.length ≤ 60 := h2
  have h4 := all_gd h3
  have hu : ∀ i, i < l.length → unitRt (getA zR l i) = true := fun i hi => all_unit h3 hi
  repeat' (first | with_reducible apply andAll_cons | with_reducible apply andAll_nil | (with_reducible apply Cf.mk; kernel_rfl) | apply And.intro | intro _ | exact True.intro | apply Lf.mk)
  all_goals (try simp only [List.drop_zero, List.take_length] at *)
  all_goals (try simp only [Bool.not_eq_true', Bool.not_eq_false', Bool.not_not, decide_eq_true_eq, decide_eq_false_iff_not, beq_iff_eq, bne_iff_ne, beq_eq_false_iff_ne, bne_eq_false_iff_eq, ne_eq, Bool.and_eq_true, Bool.and_eq_false_iff, Bool.or_eq_true, Bool.or_eq_false_iff, Int.toNat_natCast, Nat.zero_add, Int.ofNat_lt, Int.ofNat_le, List.length_cons, List.length_nil, List.drop_zero, List.take_length] at *)
  all_goals first | omega | exact h4 _ (by assumption) | skip
  refine ⟨Nat, fun i => ⟨[(14, .sc (.num .i64 i)), (7, .sc (.bool (dfN l l.length && cyL f l i)))], [100000, 100001], [(6, .box cT [.bool (!cyG f l i)])]⟩, fun i => i ≤ l.length, fun i => l.length - i, ⟨0, Nat.zero_le _, ?_⟩, ?_⟩
  · have e1 := cyL_zero f l
    have e2 := cyG_zero f l
    repeat' (first | apply And.intro | exact True.intro | exact Lf.mk (by with_reducible rfl) | apply Lf.mk)
    all_goals first | rfl | (rw [e1, Bool.and_true]; done) | (rw [e2]; rfl) | trace_state
  · rintro i g1
    have q1 := @cy_flag f l i false
    simp only [Bool.false_or] at q1
    have q2 := cyL_succ f l i
    have n1 := Int.tmod_nonneg (l.length : Int) (show 0 ≤ (i : Int) + 1 by omega)
    have n2 := Int.tmod_lt_of_pos ((i : Int) + 1) (b := (l.length : Int)) (by omega)
    have n3 : (((i : Int) + 1).tmod (l.length : Int)).toNat < l.length := by omega
    repeat' (first | with_reducible apply andAll_cons | with_reducible apply andAll_nil | (with_reducible apply Cf.mk; kernel_rfl) | apply And.intro | intro _ | exact True.intro | apply Lf.mk)
    all_goals (try simp only [Bool.not_eq_true', Bool.not_eq_false', Bool.not_not, decide_eq_true_eq, decide_eq_false_iff_not, beq_iff_eq, bne_iff_ne, beq_eq_false_iff_ne, bne_eq_false_iff_eq, ne_eq, Bool.and_eq_true, Bool.and_eq_false_iff, Bool.or_eq_true, Bool.or_eq_false_iff, Int.toNat_natCast, Nat.zero_add, Int.ofNat_lt, Int.ofNat_le, List.length_cons, List.length_nil, List.drop_zero, List.take_length] at *)
    all_goals first | omega | exact m1 | exact hu _ (by assumption) | exact n1 | exact n2 | exact n3 | skip
    · rename_i h5 h6
      have h7 : eqRt (vO f (getA zR l i)) (getA zR l (nxI l i)) = true := h6
      rw [h7, Bool.and_true] at q2
      refine ⟨i + 1, Nat.succ_le_of_lt h5, Nat.sub_succ_lt_self _ _ h5, ?_⟩
      repeat' (first | apply And.intro | exact True.intro | exact Lf.mk (by with_reducible rfl) | apply Lf.mk)
      all_goals first | rfl | exact q1 | (rw [q2]; done) | (rw [Int.natCast_add]; rfl) | (rw [q2, show eqRt _ _ = true from h6]; rfl) | trace_state
    · rename_i h5 h6
      have h7 : eqRt (vO f (getA zR l i)) (getA zR l (nxI l i)) = false := h6
      rw [h7, Bool.and_false] at q2
      refine ⟨i + 1, Nat.succ_le_of_lt h5, Nat.sub_succ_lt_self _ _ h5, ?_⟩
      repeat' (first | apply And.intro | exact True.intro | exact Lf.mk (by with_reducible rfl) | apply Lf.mk)
      all_goals first | rfl | exact q1 | (rw [q2, Bool.and_false]; done) | (rw [Int.natCast_add]; rfl) | (rw [q2, Bool.and_false, show eqRt _ _ = false from h6]; rfl) | trace_state
    all_goals (have e : i = l.length := Nat.le_antisymm g1 (Nat.not_lt.1 (by assumption)))
    all_goals subst e
    all_goals (cases hg : cyG f l l.length)
    all_goals first | rw [cyR_f hg] | rw [cyR_t hg]
    all_goals (cases ha : dfN l l.length <;> cases hb : cyL f l l.length <;> simp_all)
noncomputable def s_spec_orAt : Sig := ⟨48, [.list .rat, .val .rat], [.val NI], fun ((l : List Rt), (x : Rt), _) => ⟨[], (idxF (fun y => eqRt x y) l, ()), ()⟩⟩
theorem ok_spec_orAt : GSpec Tryz.prog s_spec_orAt := by
  refine fn_known tab_ok fol Known.nil (by decide) Tryz.func48 ?_
  rintro ⟨(l : List Rt), (x : Rt), ⟨⟩⟩ ⟨hl, _⟩ _
  have hl : l.length ≤ 9223372036854775807 := hl
  refine ⟨Nat, fun i => ⟨[(9, .sc (.num .i64 i))], [100000, 3], []⟩, fun i => i ≤ l.length ∧ (l.take i).any (fun y => eqRt x y) = false, fun i => l.length - i, ⟨0, ⟨Nat.zero_le _, rfl⟩, ?_⟩, ?_⟩
  · repeat' (first | apply And.intro | exact True.intro | exact Lf.mk (by with_reducible rfl) | apply Lf.mk)
    all_goals rfl
  · rintro i ⟨g1, g2⟩
    repeat' (first | with_reducible apply andAll_cons | with_reducible apply andAll_nil | (with_reducible apply Cf.mk; kernel_rfl) | apply And.intro | intro _ | exact True.intro | apply Lf.mk)
    all_goals (try simp only [Bool.not_eq_true', Bool.not_eq_false', Bool.not_not, decide_eq_true_eq, decide_eq_false_iff_not, beq_iff_eq, bne_iff_ne, beq_eq_false_iff_ne, bne_eq_false_iff_eq, ne_eq, Bool.and_eq_true, Bool.and_eq_false_iff, Bool.or_eq_true, Bool.or_eq_false_iff, Int.toNat_natCast, Nat.zero_add, Int.ofNat_lt, Int.ofNat_le, List.length_cons, List.length_nil, List.drop_zero, List.take_length] at *)
    all_goals first | omega | skip
    · exact (idxF_hit zR (by assumption) g2 (by assumption)).symm
    · refine ⟨i + 1, ⟨by omega, take_all_false zR (by assumption) g2 (by assumption)⟩, by omega, ?_⟩
      repeat' (first | apply And.intro | exact True.intro | exact Lf.mk (by with_reducible rfl) | apply Lf.mk)
      all_goals (rw [Int.natCast_add]; rfl)
    · rename_i h3
      rw [List.take_of_length_le (by omega)] at g2
      exact (idxF_none g2).symm
theorem or_fin {A B C D A' B' : Bool} (hA : A' = (A && C)) (hB : B' = (B && D)) : (bif (bif A && B then C else false) then D else false) = (A' && B') := by subst hA hB; cases A <;> cases B <;> cases C <;> cases D <;> rfl
theorem or_f1 {A B C A' B' D : Bool} (hA : A' = (A && C)) (hB : B' = (B && D)) (h : (bif A && B then C else false) = false) : (bif A && B then C else false) = (A' && B') := by subst hA hB; revert h; cases A <;> cases B <;> cases C <;> cases D <;> decide
theorem or_f2 {A B C A' B' D : Bool} (hA : A' = (A && C)) (hB : B' = (B && D)) (h : A = false ∨ B = false) : (A && B) = (A' && B') := by subst hA hB; revert h; cases A <;> cases B <;> cases C <;> cases D <;> simp
theorem or_f3 {A B C A' B' D : Bool} (hA : A' = (A && C)) (hB : B' = (B && D)) (h : A = false ∨ B = false) : false = (A' && B') := by subst hA hB; revert h; cases A <;> cases B <;> cases C <;> cases D <;> simp
theorem or_f4 {A B C A' B' D : Bool} (hA : A' = (A && C)) (hB : B' = (B && D)) (h : (bif A && B then C else false) = false) : false = (A' && B') := by subst hA hB; revert h; cases A <;> cases B <;> cases C <;> cases D <;> decide
theorem take_0 {α : Type} (l : List α) (i : Nat) : List.take (i - 0) (List.drop 0 l) = l.take i := by simp
noncomputable def s_spec_orIsCycle : Sig := ⟨32, [.list .pt, .list .rat], [.val .bool, .val .bool], fun ((f : List Pt), (l : List Rt), _) => ⟨[mapOk f = true, 0 < l.length, l.length ≤ 60, l.all unitRt = true], ((cyR f l).1, (cyR f l).2, ()), ()⟩⟩
theorem ok_spec_orIsCycle : GSpec Tryz.prog s_spec_orIsCycle := by
  refine fn_known tab_ok fol ((Known.nil.cons ok_spec_imAt (by kernel_rfl)).cons ok_spec_orAt (by kernel_rfl)) (by decide) Tryz.func32 ?_
  rintro ⟨(f : List Pt), (l : List Rt), ⟨⟩⟩ ⟨hl, hl2, _⟩ ⟨m1, h1, h2, h3, _⟩
  have h1 : 0 < l.length := h1
  have h2 : l.length ≤ 60 := h2
  have hu : ∀ i, i < l.length → unitRt (getA zR l i) = true := fun i hi => all_unit h3 hi
  refine ⟨Nat, fun i => ⟨[(13, .sc (.num .i64 i)), (6, .sc (.bool (cyL f l i && dfN l i)))], [100000, 100001], []⟩, fun i => i ≤ l.length ∧ cyG f l i = true, fun i => l.length - i, ⟨0, ⟨Nat.zero_le _, cyG_zero f l⟩, ?_⟩, ?_⟩
  · have e1 := cyL_zero f l
    have e2 := dfN_zero l
    repeat' (first | apply And.intro | exact True.intro | exact Lf.mk (by with_reducible rfl) | apply Lf.mk)
    all_goals first | rfl | (rw [e1, e2]; done) | (rw [e1, e2]; rfl) | trace_state
  · rintro i ⟨g1, g2⟩
    have q2 := cyL_succ f l i
    have q3 := dfN_succ l i
    have q4 := cyG_succ f l i
    have n1 := Int.tmod_nonneg (l.length : Int) (show 0 ≤ (i : Int) + 1 by omega)
    have n2 := Int.tmod_lt_of_pos ((i : Int) + 1) (b := (l.length : Int)) (by omega)
    have n3 : (((i : Int) + 1).tmod (l.length : Int)).toNat < l.length := by omega
    repeat' (first | with_reducible apply andAll_cons | with_reducible apply andAll_nil | (with_reducible apply Cf.mk; kernel_rfl) | apply And.intro | intro _ | exact True.intro | apply Lf.mk)
    all_goals (try simp only [Bool.not_eq_true', Bool.not_eq_false', Bool.not_not, decide_eq_true_eq, decide_eq_false_iff_not, beq_iff_eq, bne_iff_ne, beq_eq_false_iff_ne, bne_eq_false_iff_eq, ne_eq, Bool.and_eq_true, Bool.and_eq_false_iff, Bool.or_eq_true, Bool.or_eq_false_iff, Int.toNat_natCast, Nat.zero_add, Int.ofNat_lt, Int.ofNat_le, List.length_cons, List.length_nil, List.drop_zero, List.take_length] at *)
    all_goals first | omega | exact m1 | exact hu _ (by assumption) | exact n1 | exact n2 | exact n3 | skip
    all_goals (try have hlt : i < l.length := (by assumption))
    all_goals (try have a1 : (vR f (getA zR l i)).2 = true := (by assumption))
    all_goals (try rw [vO_t a1] at q2)
    all_goals first
      | (rw [cyR_f (cyG_f hlt (show (vR f (getA zR l i)).2 = false by assumption))]; done)
      | (exfalso; exact absurd ‹false = true› Bool.false_ne_true)
      | skip
    · refine ⟨i + 1, ⟨Nat.succ_le_of_lt hlt, by rw [q4, g2, a1]; rfl⟩, Nat.sub_succ_lt_self _ _ hlt, ?_⟩
      repeat' (first | apply And.intro | exact True.intro | exact Lf.mk (by with_reducible rfl) | apply Lf.mk)
      all_goals first | rfl | (rw [Int.natCast_add]; rfl) | exact or_fin q2 q3 | trace_state
    · have h9 : (bif cyL f l i && dfN l i then eqRt (vR f (getA zR l i)).1 (getA zR l (nxI l i)) else false) = false := by assumption
      refine ⟨i + 1, ⟨Nat.succ_le_of_lt hlt, by rw [q4, g2, a1]; rfl⟩, Nat.sub_succ_lt_self _ _ hlt, ?_⟩
      repeat' (first | apply And.intro | exact True.intro | exact Lf.mk (by with_reducible rfl) | apply Lf.mk)
      all_goals first | rfl | (rw [Int.natCast_add]; rfl) | exact or_fin q2 q3 | exact or_f1 q2 q3 h9 | exact or_f4 q2 q3 h9 | trace_state
    · have h9 : cyL f l i = false ∨ dfN l i = false := by assumption
      refine ⟨i + 1, ⟨Nat.succ_le_of_lt hlt, by rw [q4, g2, a1]; rfl⟩, Nat.sub_succ_lt_self _ _ hlt, ?_⟩
      repeat' (first | apply And.intro | exact True.intro | exact Lf.mk (by with_reducible rfl) | apply Lf.mk)
      all_goals first | rfl | (rw [Int.natCast_add]; rfl) | exact or_fin q2 q3 | exact or_f2 q2 q3 h9 | exact or_f3 q2 q3 h9 | trace_state
    all_goals (have e : i = l.length := Nat.le_antisymm g1 (Nat.not_lt.1 (by assumption)))
    all_goals subst e
    all_goals rw [cyR_t g2]

theorem cyPre {f : List Pt} {l : List Rt} (h1 : mapOk f = true) (h2 : inB (l.length : Int) 1 60 = true) (h3 : l.all unitRt = true) : cyOk f l = true := cyOk_iff.2 ⟨h1, h2, h3⟩
noncomputable def s_impl_IsCycle : Sig := ⟨22, [.list .pt, .list .rat], [.val .bool, .val .bool], fun ((f : List Pt), (l : List Rt), _) => ⟨[], ((cysR f l).1, (cysR f l).2, ()), ()⟩⟩
theorem ok_impl_IsCycle : GSpec Tryz.prog s_impl_IsCycle := by
  refine fn_known tab_ok fol ((((Known.nil.cons ok_impl_isMap (by kernel_rfl)).cons ok_impl_within (by kernel_rfl)).cons ok_impl_areUnits (by kernel_rfl)).cons ok_impl_isCycle (by kernel_rfl)) (by decide) Tryz.func22 ?_
  rintro ⟨(f : List Pt), (l : List Rt), ⟨⟩⟩ - -
  have hb : inB (l.length : Int) 1 60 = true → 0 < l.length ∧ l.length ≤ 60 := fun h => ⟨by have := (of_decide_eq_true h).1; omega, by have := (of_decide_eq_true h).2; omega⟩
  repeat' (first | with_reducible apply andAll_cons | with_reducible apply andAll_nil | (with_reducible apply Cf.mk; kernel_rfl) | apply And.intro | intro _ | exact True.intro | apply Lf.mk)
  all_goals (try simp only [List.drop_zero, List.take_length] at *)
  all_goals (try simp only [Bool.not_eq_true', Bool.not_eq_false', Bool.not_not, decide_eq_true_eq, decide_eq_false_iff_not, beq_iff_eq, bne_iff_ne, beq_eq_false_iff_ne, bne_eq_false_iff_eq, ne_eq, Bool.and_eq_true, Bool.and_eq_false_iff, Bool.or_eq_true, Bool.or_eq_false_iff, Int.toNat_natCast, Nat.zero_add, Int.ofNat_lt, Int.ofNat_le, List.length_cons, List.length_nil, List.drop_zero, List.take_length] at *)
  all_goals first | assumption | exact (hb (by assumption)).1 | exact (hb (by assumption)).2 | (rw [cysR_f (cyOk_f1 (by assumption))]; done) | (rw [cysR_f (cyOk_f2 (by assumption))]; done) | (rw [cysR_f (cyOk_f3 (by assumption))]; done) | (rw [cysR_t (cyPre (by assumption) (by assumption) (by assumption))]; done) | trace_state
noncomputable def s_spec_IsCycle : Sig := ⟨17, [.list .pt, .list .rat], [.val .bool, .val .bool], fun ((f : List Pt), (l : List Rt), _) => ⟨[], ((cysR f l).1, (cysR f l).2, ()), ()⟩⟩
theorem ok_spec_IsCycle : GSpec Tryz.prog s_spec_IsCycle := by
  refine fn_known tab_ok fol ((((Known.nil.cons ok_spec_imGood (by kernel_rfl)).cons ok_spec_l1In (by kernel_rfl)).cons ok_spec_raUnit (by kernel_rfl)).cons ok_spec_orIsCycle (by kernel_rfl)) (by decide) Tryz.func17 ?_
  rintro ⟨(f : List Pt), (l : List Rt), ⟨⟩⟩ ⟨hl, hl2, _⟩ -
  have hl2 : l.length ≤ 9223372036854775807 := hl2
  have hb : inB (l.length : Int) 1 60 = true → 0 < l.length ∧ l.length ≤ 60 := fun h => ⟨by have := (of_decide_eq_true h).1; omega, by have := (of_decide_eq_true h).2; omega⟩
  repeat' (first | with_reducible apply andAll_cons | with_reducible apply andAll_nil | (with_reducible apply Cf.mk; kernel_rfl) | apply And.intro | intro _ | exact True.intro | apply Lf.mk)
  all_goals (try simp only [Bool.not_eq_true', Bool.not_eq_false', Bool.not_not, decide_eq_true_eq, decide_eq_false_iff_not, beq_iff_eq, bne_iff_ne, beq_eq_false_iff_ne, bne_eq_false_iff_eq, ne_eq, Bool.and_eq_true, Bool.and_eq_false_iff, Bool.or_eq_true, Bool.or_eq_false_iff, Int.toNat_natCast, Nat.zero_add, Int.ofNat_lt, Int.ofNat_le, List.length_cons, List.length_nil, List.drop_zero, List.take_length] at *)
  all_goals first | (rw [cysR_f (cyOk_f1 (by assumption))]; done) | (rw [cysR_f (cyOk_f2 (by assumption))]; done) | skip
  rename_i m1 m2
  obtain ⟨h1, h2⟩ := hb m2
  refine ⟨Nat, fun i => ⟨[(19, .sc (.num .i64 i))], [100000, 100001], []⟩, fun i => i ≤ l.length ∧ (l.take i).all unitRt = true, fun i => l.length - i, ⟨0, ⟨Nat.zero_le _, rfl⟩, ?_⟩, ?_⟩
  · repeat' (first | apply And.intro | exact True.intro | exact Lf.mk (by with_reducible rfl) | apply Lf.mk)
    all_goals first | rfl | trace_state
  · rintro i ⟨g1, g2⟩
    repeat' (first | with_reducible apply andAll_cons | with_reducible apply andAll_nil | (with_reducible apply Cf.mk; kernel_rfl) | apply And.intro | intro _ | exact True.intro | apply Lf.mk)
    all_goals (try simp only [List.drop_zero, List.take_length] at *)
    all_goals (try simp only [Bool.not_eq_true', Bool.not_eq_false', Bool.not_not, decide_eq_true_eq, decide_eq_false_iff_not, beq_iff_eq, bne_iff_ne, beq_eq_false_iff_ne, bne_eq_false_iff_eq, ne_eq, Bool.and_eq_true, Bool.and_eq_false_iff, Bool.or_eq_true, Bool.or_eq_false_iff, Int.toNat_natCast, Nat.zero_add, Int.ofNat_lt, Int.ofNat_le, List.length_cons, List.length_nil, List.drop_zero, List.take_length] at *)
    all_goals first | omega | exact m1 | exact h1 | exact h2 | skip
    · rename_i h5 h6
      rw [cysR_f (cyOk_f3 (all_false_of unitRt zR l i h5 h6))]
    · rename_i h5 h6
      rw [cysR_f (cyOk_f3 (all_false_of unitRt zR l i h5 h6))]
    · rename_i h5 h6
      refine ⟨i + 1, ⟨Nat.succ_le_of_lt h5, ?_⟩, Nat.sub_succ_lt_self _ _ h5, ?_⟩
      · rw [all_take_succ unitRt zR l i h5, g2]; exact h6
      · repeat' (first | apply And.intro | exact True.intro | exact Lf.mk (by with_reducible rfl) | apply Lf.mk)
        all_goals first | rfl | (rw [Int.natCast_add]; rfl) | trace_state
    all_goals (have e : i = l.length := Nat.le_antisymm g1 (Nat.not_lt.1 (by assumption)))
    all_goals subst e
    all_goals rw [List.take_length] at g2
    all_goals first | exact g2 | (rw [cysR_t (cyPre m1 m2 g2)]; done)
noncomputable def s_calc_values : Sig := ⟨23, [.cell cT .bool, .list .pt, .list .rat], [.list 42 .rat], fun ((c : Bool), (h : List Pt), (l : List Rt), _) => ⟨[mapOk h = true, l.length ≤ 60, l.all unitRt = true], (vsL h l l.length, ()), (c || !cyG h l l.length, ())⟩⟩
theorem ok_calc_values : GSpec Tryz.prog s_calc_values := by
  refine fn_known tab_ok fol (Known.nil.cons ok_calc_value (by kernel_rfl)) (by decide) Tryz.func23 ?_
  rintro ⟨(c : Bool), (h : List Pt), (l : List Rt), ⟨⟩⟩ ⟨hl, hl2, _⟩ ⟨m1, h2, h3, _⟩
  have h2 : l.length ≤ 60 := h2
  have hu : ∀ i, i < l.length → unitRt (getA zR l i) = true := fun i hi => all_unit h3 hi
  refine ⟨Nat, fun i => ⟨[(12, .sc (.num .i64 i)), (7, .sc (.own 7777777))], [100001, 100002], [(100000, .box cT [.bool (c || !cyG h l i)]), (7777777, .row 42 .rat (vsL h l i))]⟩, fun i => i ≤ l.length, fun i => l.length - i, ⟨0, Nat.zero_le _, ?_⟩, ?_⟩
  · have e1 := vsL_zero h l
    have e2 := cyG_zero h l
    repeat' (first | apply And.intro | exact True.intro | exact Lf.mk (by with_reducible rfl) | apply Lf.mk)
    all_goals first | rfl | exact e1.symm | (rw [e1]; rfl) | (rw [e2]; cases c <;> rfl) | trace_state
  · rintro i g1
    have q1 := @cy_flag h l i c
    have q2 := vsL_succ h l i
    have q3 := vsL_len h l i
    repeat' (first | with_reducible apply andAll_cons | with_reducible apply andAll_nil | (with_reducible apply Cf.mk; kernel_rfl) | apply And.intro | intro _ | exact True.intro | apply Lf.mk)
    all_goals (try simp only [Bool.not_eq_true', Bool.not_eq_false', Bool.not_not, decide_eq_true_eq, decide_eq_false_iff_not, beq_iff_eq, bne_iff_ne, beq_eq_false_iff_ne, bne_eq_false_iff_eq, ne_eq, Bool.and_eq_true, Bool.and_eq_false_iff, Bool.or_eq_true, Bool.or_eq_false_iff, Int.toNat_natCast, Nat.zero_add, Int.ofNat_lt, Int.ofNat_le, List.length_cons, List.length_nil, List.drop_zero, List.take_length] at *)
    all_goals first | omega | exact m1 | exact hu _ (by assumption) | (show (_ + 1) * 16 ≤ 140737488355328; omega) | skip
    · rename_i h5
      refine ⟨i + 1, Nat.succ_le_of_lt h5, Nat.sub_succ_lt_self _ _ h5, ?_⟩
      repeat' (first | apply And.intro | exact True.intro | exact Lf.mk (by with_reducible rfl) | apply Lf.mk)
      all_goals first | rfl | exact q1 | exact q2.symm | (rw [Int.natCast_add]; rfl) | trace_state
    all_goals (have e : i = l.length := Nat.le_antisymm g1 (Nat.not_lt.1 (by assumption)))
    all_goals subst e
    all_goals rfl
noncomputable def s_impl_CarryCycle : Sig := ⟨9, [.list .pt, .list .pt, .list .pt, .list .rat], [.list 42 .rat, .val .bool], fun ((f : List Pt), (g : List Pt), (h : List Pt), (l : List Rt), _) => ⟨[], ((ccR f g h l).1, (ccR f g h l).2, ()), ()⟩⟩
theorem ok_impl_CarryCycle : GSpec Tryz.prog s_impl_CarryCycle := by
  refine fn_known tab_ok fol (((Known.nil.cons ok_impl_IsConjugacy (by kernel_rfl)).cons ok_impl_IsCycle (by kernel_rfl)).cons ok_calc_values (by kernel_rfl)) (by decide) Tryz.func9 ?_
  rintro ⟨(f : List Pt), (g : List Pt), (h : List Pt), (l : List Rt), ⟨⟩⟩ - -
  have p1 : (cjRes f g h).2 = true → mapOk h = true := fun a => (chOk_iff.1 (tpsOk_iff.1 (cj_ok a)).2.2).1
  have p2 : (cysR f l).2 = true → l.length ≤ 60 := fun a => by have := (of_decide_eq_true (cyOk_iff.1 (cys_ok a)).2.1).2; omega
  have p3 : (cysR f l).2 = true → l.all unitRt = true := fun a => (cyOk_iff.1 (cys_ok a)).2.2
  repeat' (first | with_reducible apply andAll_cons | with_reducible apply andAll_nil | (with_reducible apply Cf.mk; kernel_rfl) | apply And.intro | intro _ | exact True.intro | apply Lf.mk)
  all_goals (try simp only [List.drop_zero, List.take_length] at *)
  all_goals (try simp only [Bool.not_eq_true', Bool.not_eq_false', Bool.not_not, decide_eq_true_eq, decide_eq_false_iff_not, beq_iff_eq, bne_iff_ne, beq_eq_false_iff_ne, bne_eq_false_iff_eq, ne_eq, Bool.and_eq_true, Bool.and_eq_false_iff, Bool.or_eq_true, Bool.or_eq_false_iff, Int.toNat_natCast, Nat.zero_add, Int.ofNat_lt, Int.ofNat_le, List.length_cons, List.length_nil, List.drop_zero, List.take_length] at *)
  all_goals first
    | (rw [ccR_f1 (by assumption)]; done)
    | (rw [ccR_f2 (by assumption)]; done)
    | (rw [ccR_f3 (by assumption)]; done)
    | (rw [ccR_f4 (by assumption)]; done)
    | exact p1 (by assumption) | exact p2 (by assumption) | exact p3 (by assumption)
    | skip
  all_goals first
    | (have hb : cyG h l l.length = false := Or.resolve_left (by assumption) Bool.noConfusion
       rw [ccR_f5 hb])
    | (have hb : cyG h l l.length = true := And.right (by assumption)
       rw [ccR_t (by assumption) (by assumption) (by assumption) (by assumption) hb])
    | trace_state
noncomputable def s_spec_CarryCycle : Sig := ⟨6, [.list .pt, .list .pt, .list .pt, .list .rat], [.list 42 .rat, .val .bool], fun ((f : List Pt), (g : List Pt), (h : List Pt), (l : List Rt), _) => ⟨[], ((ccR f g h l).1, (ccR f g h l).2, ()), ()⟩⟩
theorem ok_spec_CarryCycle : GSpec Tryz.prog s_spec_CarryCycle := by
  refine fn_known tab_ok fol ((((Known.nil.cons ok_spec_cjThree (by kernel_rfl)).cons ok_spec_cjIs (by kernel_rfl)).cons ok_spec_IsCycle (by kernel_rfl)).cons ok_spec_imAt (by kernel_rfl)) (by decide) Tryz.func6 ?_
  rintro ⟨(f : List Pt), (g : List Pt), (h : List Pt), (l : List Rt), ⟨⟩⟩ ⟨hl, hl2, hl3, hl4, _⟩ -
  have k1 : tpsOk f g h = false → (cjRes f g h).2 = false := fun a => by rw [cjRes_f a]
  have k2 : tpsOk f g h = true → cjRes f g h = icR f g h := fun a => cjRes_t a
  repeat' (first | with_reducible apply andAll_cons | with_reducible apply andAll_nil | (with_reducible apply Cf.mk; kernel_rfl) | apply And.intro | intro _ | exact True.intro | apply Lf.mk)
  all_goals (try simp only [Bool.not_eq_true', Bool.not_eq_false', Bool.not_not, decide_eq_true_eq, decide_eq_false_iff_not, beq_iff_eq, bne_iff_ne, beq_eq_false_iff_ne, bne_eq_false_iff_eq, ne_eq, Bool.and_eq_true, Bool.and_eq_false_iff, Bool.or_eq_true, Bool.or_eq_false_iff, Int.toNat_natCast, Nat.zero_add, Int.ofNat_lt, Int.ofNat_le, List.length_cons, List.length_nil, List.drop_zero, List.take_length] at *)
  all_goals first
    | (rw [ccR_f1 (k1 (by assumption))]; done)
    | exact (tpsOk_iff.1 (by assumption)).1 | exact (tpsOk_iff.1 (by assumption)).2.1 | exact (tpsOk_iff.1 (by assumption)).2.2
    | skip
  all_goals (have k3 := k2 (by assumption))
  all_goals first
    | (rw [ccR_f1 (by rw [k3]; assumption)]; done)
    | (rw [ccR_f2 (by rw [k3]; assumption)]; done)
    | (rw [ccR_f3 (by assumption)]; done)
    | (rw [ccR_f4 (by assumption)]; done)
    | skip
  rename_i n1 n2 n3 n4 n5
  have m4 := (chOk_iff.1 (tpsOk_iff.1 n1).2.2).1
  have n2 : (cjRes f g h).2 = true := by rw [k3]; exact n2
  have n3 : (cjRes f g h).1 = true := by rw [k3]; exact n3
  have w2 : l.length ≤ 60 := by have := (of_decide_eq_true (cyOk_iff.1 (cys_ok n4)).2.1).2; omega
  have w3 : l.all unitRt = true := (cyOk_iff.1 (cys_ok n4)).2.2
  have hu : ∀ i, i < l.length → unitRt (getA zR l i) = true := fun i hi => all_unit w3 hi
  refine ⟨Nat, fun i => ⟨[(53, .sc (.num .i64 i)), (14, .sc (.own 7777777))], [100002, 100003], [(7777777, .row 42 .rat (vsL h l i))]⟩, fun i => i ≤ l.length ∧ cyG h l i = true, fun i => l.length - i, ⟨0, ⟨Nat.zero_le _, cyG_zero h l⟩, ?_⟩, ?_⟩
  · have e1 := vsL_zero h l
    repeat' (first | apply And.intro | exact True.intro | exact Lf.mk (by with_reducible rfl) | apply Lf.mk)
    all_goals first | rfl | exact e1.symm | (rw [e1]; rfl) | trace_state
  · rintro i ⟨g1, g2⟩
    have q2 := vsL_succ h l i
    have q3 := vsL_len h l i
    have q4 := cyG_succ h l i
    repeat' (first | with_reducible apply andAll_cons | with_reducible apply andAll_nil | (with_reducible apply Cf.mk; kernel_rfl) | apply And.intro | intro _ | exact True.intro | apply Lf.mk)
    all_goals (try simp only [Bool.not_eq_true', Bool.not_eq_false', Bool.not_not, decide_eq_true_eq, decide_eq_false_iff_not, beq_iff_eq, bne_iff_ne, beq_eq_false_iff_ne, bne_eq_false_iff_eq, ne_eq, Bool.and_eq_true, Bool.and_eq_false_iff, Bool.or_eq_true, Bool.or_eq_false_iff, Int.toNat_natCast, Nat.zero_add, Int.ofNat_lt, Int.ofNat_le, List.length_cons, List.length_nil, List.drop_zero, List.take_length] at *)
    all_goals first | omega | exact m4 | exact hu _ (by assumption) | (show (_ + 1) * 16 ≤ 140737488355328; omega) | skip
    all_goals (try have hlt : i < l.length := (by assumption))
    all_goals first
      | (rw [ccR_f5 (cyG_f hlt (show (vR h (getA zR l i)).2 = false by assumption))]; done)
      | skip
    · rename_i h5 h6
      have h6 : (vR h (getA zR l i)).2 = true := h6
      rw [vO_t h6] at q2
      refine ⟨i + 1, ⟨Nat.succ_le_of_lt hlt, by rw [q4, g2, h6]; rfl⟩, Nat.sub_succ_lt_self _ _ hlt, ?_⟩
      repeat' (first | apply And.intro | exact True.intro | exact Lf.mk (by with_reducible rfl) | apply Lf.mk)
      all_goals first | rfl | exact q2.symm | (rw [Int.natCast_add]; rfl) | trace_state
    all_goals (have e : i = l.length := Nat.le_antisymm g1 (Nat.not_lt.1 (by assumption)))
    all_goals subst e
    all_goals rw [ccR_t n2 n3 n4 n5 g2]
end Go.Vx
