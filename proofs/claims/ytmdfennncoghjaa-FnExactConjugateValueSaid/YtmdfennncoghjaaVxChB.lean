/- The fraction at which a change has a value, and values seen through a change: the program's functions and the reference's. -/
import Derived.Test.YtmdfennncoghjaaVxCh
namespace Go.Vx
open Go Go.Proofs
set_option maxRecDepth 100000
set_option linter.unusedSimpArgs false
set_option linter.unusedVariables false

noncomputable def cbRes (h : List Pt) (y : Rt) : Rt × Bool := match chOk h && unitRt y with
  | true => chB h y
  | false => (⟨0, 0⟩, false)
theorem cb_f1 {h : List Pt} {y : Rt} (hc : chOk h = false) : cbRes h y = (⟨0, 0⟩, false) := by unfold cbRes; rw [hc]; rfl
theorem cb_f2 {h : List Pt} {y : Rt} (hc : unitRt y = false) : cbRes h y = (⟨0, 0⟩, false) := by unfold cbRes; rw [hc]; cases chOk h <;> rfl
theorem cb_t {h : List Pt} {y : Rt} (hc : chOk h = true) (hy : unitRt y = true) : cbRes h y = chB h y := by unfold cbRes; rw [hc, hy]; rfl
noncomputable def s_impl_ChangeBack : Sig := ⟨28, [.list .pt, .val .rat], [.val .rat, .val .bool], fun ((h : List Pt), (y : Rt), _) => ⟨[], ((cbRes h y).1, (cbRes h y).2, ()), ()⟩⟩
noncomputable def s_spec_ChangeBack : Sig := ⟨26, [.list .pt, .val .rat], [.val .rat, .val .bool], fun ((h : List Pt), (y : Rt), _) => ⟨[], ((cbRes h y).1, (cbRes h y).2, ()), ()⟩⟩
theorem ok_impl_ChangeBack : GSpec Try.prog s_impl_ChangeBack := by
  refine fn_known tab_ok fol (((Known.nil.cons ok_impl_isChange (by kernel_rfl)).cons ok_impl_isUnit (by kernel_rfl)).cons ok_calc_changeBack (by kernel_rfl)) (by decide) Try.func28 ?_
  rintro ⟨(h : List Pt), ⟨(n : Int), (d : Int)⟩, ⟨⟩⟩ - -
  repeat' (first | with_reducible apply andAll_cons | with_reducible apply andAll_nil | (with_reducible apply Cf.mk; kernel_rfl) | apply And.intro | intro _ | exact True.intro | apply Lf.mk)
  all_goals (try simp only [Bool.not_eq_true', Bool.not_eq_false', Bool.not_not, decide_eq_true_eq, decide_eq_false_iff_not, beq_iff_eq, bne_iff_ne, beq_eq_false_iff_ne, bne_eq_false_iff_eq, ne_eq, Bool.and_eq_true, Bool.and_eq_false_iff, Bool.or_eq_true, Bool.or_eq_false_iff, Int.toNat_natCast, Nat.zero_add, Int.ofNat_lt, Int.ofNat_le, List.length_cons, List.length_nil, List.drop_zero, List.take_length] at *)
  all_goals first
    | assumption
    | (rw [cb_f1 (by assumption)]; done)
    | (rw [cb_f2 (by assumption)]; done)
    | skip
  all_goals rename_i q1 q2 q3
  · rw [cb_t q1 q2, chB_bad (q3.resolve_left Bool.noConfusion)]
  · rw [cb_t q1 q2, chB_bad (q3.resolve_left Bool.noConfusion)]
  · rw [cb_t q1 q2]; exact chO_t q3.2
  · rw [cb_t q1 q2]; exact q3.2.symm
theorem ok_spec_ChangeBack : GSpec Try.prog s_spec_ChangeBack := by
  refine fn_known tab_ok fol (((Known.nil.cons ok_spec_cjGood (by kernel_rfl)).cons ok_spec_raUnit (by kernel_rfl)).cons ok_spec_cjBack (by kernel_rfl)) (by decide) Try.func26 ?_
  rintro ⟨(h : List Pt), ⟨(n : Int), (d : Int)⟩, ⟨⟩⟩ - -
  repeat' (first | with_reducible apply andAll_cons | with_reducible apply andAll_nil | (with_reducible apply Cf.mk; kernel_rfl) | apply And.intro | intro _ | exact True.intro | apply Lf.mk)
  all_goals (try simp only [Bool.not_eq_true', Bool.not_eq_false', Bool.not_not, decide_eq_true_eq, decide_eq_false_iff_not, beq_iff_eq, bne_iff_ne, beq_eq_false_iff_ne, bne_eq_false_iff_eq, ne_eq, Bool.and_eq_true, Bool.and_eq_false_iff, Bool.or_eq_true, Bool.or_eq_false_iff, Int.toNat_natCast, Nat.zero_add, Int.ofNat_lt, Int.ofNat_le, List.length_cons, List.length_nil, List.drop_zero, List.take_length] at *)
  all_goals first
    | assumption
    | (rw [cb_f1 (by assumption)]; done)
    | (rw [cb_f2 (by assumption)]; done)
    | (rw [cb_t (by assumption) (by assumption)]; done)
    | skip
noncomputable def cvOk (f h : List Pt) (x : Rt) : Bool := mapOk f && (chOk h && unitRt x)
noncomputable def cnRes (f h : List Pt) (x : Rt) : Rt × Bool := match cvOk f h x with
  | true => match (chB h x).2 with
    | true => match (vR f (chB h x).1).2 with
      | true => vR h (vR f (chB h x).1).1
      | false => (⟨0, 0⟩, false)
    | false => (⟨0, 0⟩, false)
  | false => (⟨0, 0⟩, false)
theorem cn_f1 {f h : List Pt} {x : Rt} (hc : mapOk f = false) : cnRes f h x = (⟨0, 0⟩, false) := by unfold cnRes cvOk; rw [hc]; rfl
theorem cn_f2 {f h : List Pt} {x : Rt} (hc : chOk h = false) : cnRes f h x = (⟨0, 0⟩, false) := by unfold cnRes cvOk; rw [hc]; cases mapOk f <;> rfl
theorem cn_f3 {f h : List Pt} {x : Rt} (hc : unitRt x = false) : cnRes f h x = (⟨0, 0⟩, false) := by unfold cnRes cvOk; rw [hc]; cases mapOk f <;> cases chOk h <;> rfl
theorem cn_b1 {f h : List Pt} {x : Rt} (h1 : (chB h x).2 = false) : cnRes f h x = (⟨0, 0⟩, false) := by unfold cnRes; rw [h1]; cases cvOk f h x <;> rfl
theorem cn_b2 {f h : List Pt} {x : Rt} (h1 : (chB h x).2 = true) (h2 : (vR f (chB h x).1).2 = false) : cnRes f h x = (⟨0, 0⟩, false) := by unfold cnRes; rw [h1, h2]; cases cvOk f h x <;> rfl
theorem cn_t {f h : List Pt} {x : Rt} (k1 : mapOk f = true) (k2 : chOk h = true) (k3 : unitRt x = true) (h1 : (chB h x).2 = true) (h2 : (vR f (chB h x).1).2 = true) : cnRes f h x = vR h (vR f (chB h x).1).1 := by unfold cnRes cvOk; rw [k1, k2, k3, h1, h2]; rfl
theorem ch_map {h : List Pt} (hc : chOk h = true) : mapOk h = true := (chOk_iff.1 hc).1
noncomputable def s_impl_ConjugateValue : Sig := ⟨33, [.list .pt, .list .pt, .val .rat], [.val .rat, .val .bool], fun ((f : List Pt), (h : List Pt), (x : Rt), _) => ⟨[], ((cnRes f h x).1, (cnRes f h x).2, ()), ()⟩⟩
noncomputable def s_spec_ConjugateValue : Sig := ⟨32, [.list .pt, .list .pt, .val .rat], [.val .rat, .val .bool], fun ((f : List Pt), (h : List Pt), (x : Rt), _) => ⟨[], ((cnRes f h x).1, (cnRes f h x).2, ()), ()⟩⟩
section
variable {f h : List Pt} {x : Rt}
theorem chO_unit (hc : chOk h = true) (hx : unitRt x = true) (hB : (chB h x).2 = true) : unitRt (chO h x) = true := by rw [chO_t hB]; exact chB_unit hc hx hB
theorem cn_bad1 (hh : false = true ∨ (chB h x).2 = false) : cnRes f h x = (⟨0, 0⟩, false) := cn_b1 (hh.resolve_left Bool.noConfusion)
theorem cn_bad2 (hh : (false = true ∨ (chB h x).2 = false) ∨ (vR f (chO h x)).2 = false) : cnRes f h x = (⟨0, 0⟩, false) := by
  rcases hh with hh | hh
  · exact cn_bad1 hh
  · cases hB : (chB h x).2 with
    | false => exact cn_b1 hB
    | true => rw [chO_t hB] at hh; exact cn_b2 hB hh
theorem cn_bad3 (k1 : mapOk f = true) (k2 : chOk h = true) (k3 : unitRt x = true) (hh : ((false = true ∨ (chB h x).2 = false) ∨ (vR f (chO h x)).2 = false) ∨ (vR h (vO f (chO h x))).2 = false) : cnRes f h x = (⟨0, 0⟩, false) := by
  rcases hh with hh | hh
  · exact cn_bad2 hh
  · cases hB : (chB h x).2 with
    | false => exact cn_b1 hB
    | true =>
      rw [chO_t hB] at hh
      cases hV : (vR f (chB h x).1).2 with
      | false => exact cn_b2 hB hV
      | true => rw [vO_t hV] at hh; rw [cn_t k1 k2 k3 hB hV, vR_bad hh]
theorem cn_ok (k1 : mapOk f = true) (k2 : chOk h = true) (k3 : unitRt x = true) (hh : ((True ∧ (chB h x).2 = true) ∧ (vR f (chO h x)).2 = true) ∧ (vR h (vO f (chO h x))).2 = true) : (vO h (vO f (chO h x)), true) = cnRes f h x := by
  obtain ⟨⟨⟨_, hB⟩, hV⟩, hW⟩ := hh
  rw [chO_t hB] at hV hW ⊢
  rw [vO_t hV] at hW ⊢
  rw [cn_t k1 k2 k3 hB hV, vO_t hW]
  exact Prod.ext rfl hW.symm
theorem cn_con1 (h1 : false = true ∨ (chB h x).2 = false) (h2 : True ∧ (chB h x).2 = true) : False := by
  rcases h1 with h1 | h1
  · cases h1
  · rw [h2.2] at h1; cases h1
theorem cn_con2 {y : Rt} (h1 : (false = true ∨ (chB h x).2 = false) ∨ (vR f y).2 = false) (h2 : (True ∧ (chB h x).2 = true) ∧ (vR f y).2 = true) : False := by
  rcases h1 with h1 | h1
  · exact cn_con1 h1 h2.1
  · rw [h2.2] at h1; cases h1
end
theorem ok_impl_ConjugateValue : GSpec Try.prog s_impl_ConjugateValue := by
  refine fn_known tab_ok fol (((((Known.nil.cons ok_impl_isMap (by kernel_rfl)).cons ok_impl_isChange (by kernel_rfl)).cons ok_impl_isUnit (by kernel_rfl)).cons ok_calc_changeBack (by kernel_rfl)).cons ok_calc_value (by kernel_rfl)) (by decide) Try.func33 ?_
  rintro ⟨(f : List Pt), (h : List Pt), ⟨(n : Int), (d : Int)⟩, ⟨⟩⟩ - -
  repeat' (first | with_reducible apply andAll_cons | with_reducible apply andAll_nil | (with_reducible apply Cf.mk; kernel_rfl) | apply And.intro | intro _ | exact True.intro | apply Lf.mk)
  all_goals (try simp only [Bool.not_eq_true', Bool.not_eq_false', Bool.not_not, decide_eq_true_eq, decide_eq_false_iff_not, beq_iff_eq, bne_iff_ne, beq_eq_false_iff_ne, bne_eq_false_iff_eq, ne_eq, Bool.and_eq_true, Bool.and_eq_false_iff, Bool.or_eq_true, Bool.or_eq_false_iff, Int.toNat_natCast, Nat.zero_add, Int.ofNat_lt, Int.ofNat_le, List.length_cons, List.length_nil, List.drop_zero, List.take_length] at *)
  all_goals first
    | assumption
    | (rw [cn_f1 (by assumption)]; done)
    | (rw [cn_f2 (by assumption)]; done)
    | (rw [cn_f3 (by assumption)]; done)
    | exact ch_map (by assumption)
    | exact (cn_con1 (by assumption) (by assumption)).elim
    | exact (cn_con2 (by assumption) (by assumption)).elim
    | exact chO_unit (by assumption) (by assumption) (by assumption : True ∧ _).2
    | exact vO_unit (by assumption) (chO_unit (by assumption) (by assumption) (by assumption : True ∧ _).2)
    | (rw [cn_bad1 (by assumption)]; done)
    | (rw [cn_bad2 (by assumption)]; done)
    | (rw [cn_bad3 (by assumption) (by assumption) (by assumption) (by assumption)]; done)
    | exact congrArg Prod.fst (cn_ok (by assumption) (by assumption) (by assumption) (by assumption))
    | exact congrArg Prod.snd (cn_ok (by assumption) (by assumption) (by assumption) (by assumption))
    | skip
theorem ok_spec_ConjugateValue : GSpec Try.prog s_spec_ConjugateValue := by
  refine fn_known tab_ok fol (((((Known.nil.cons ok_spec_imGood (by kernel_rfl)).cons ok_spec_cjGood (by kernel_rfl)).cons ok_spec_raUnit (by kernel_rfl)).cons ok_spec_cjBack (by kernel_rfl)).cons ok_spec_imAt (by kernel_rfl)) (by decide) Try.func32 ?_
  rintro ⟨(f : List Pt), (h : List Pt), ⟨(n : Int), (d : Int)⟩, ⟨⟩⟩ - -
  repeat' (first | with_reducible apply andAll_cons | with_reducible apply andAll_nil | (with_reducible apply Cf.mk; kernel_rfl) | apply And.intro | intro _ | exact True.intro | apply Lf.mk)
  all_goals (try simp only [Bool.not_eq_true', Bool.not_eq_false', Bool.not_not, decide_eq_true_eq, decide_eq_false_iff_not, beq_iff_eq, bne_iff_ne, beq_eq_false_iff_ne, bne_eq_false_iff_eq, ne_eq, Bool.and_eq_true, Bool.and_eq_false_iff, Bool.or_eq_true, Bool.or_eq_false_iff, Int.toNat_natCast, Nat.zero_add, Int.ofNat_lt, Int.ofNat_le, List.length_cons, List.length_nil, List.drop_zero, List.take_length] at *)
  all_goals first
    | assumption
    | (rw [cn_f1 (by assumption)]; done)
    | (rw [cn_f2 (by assumption)]; done)
    | (rw [cn_f3 (by assumption)]; done)
    | exact ch_map (by assumption)
    | exact chB_unit (by assumption) (by assumption) (by assumption)
    | exact vR_unit (by assumption) (chB_unit (by assumption) (by assumption) (by assumption)) (by assumption)
    | (rw [cn_b1 (by assumption)]; done)
    | (rw [cn_b2 (by assumption) (by assumption)]; done)
    | (rw [cn_t (by assumption) (by assumption) (by assumption) (by assumption) (by assumption)]; done)
    | skip
end Go.Vx
