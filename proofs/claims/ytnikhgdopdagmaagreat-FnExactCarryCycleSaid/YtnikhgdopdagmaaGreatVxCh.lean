/- Changes: the program's functions and the reference's. -/
import Derived.Test.YtnikhgdopdagmaaGreatVpCh
import Derived.Test.YtnikhgdopdagmaaGreatVxMapB
namespace Go.Vx
open Go Go.Proofs
set_option maxRecDepth 100000
set_option linter.unusedSimpArgs false
set_option linter.unusedVariables false

theorem cond_and (P Q : Bool) : (bif P then Q else false) = (P && Q) := by cases P <;> rfl
theorem sl_all {h : List Pt} (hm : mapOk h = true) : ((slL h (h.length - 1)).any fun s => decide (s.num ≤ 0)) = !risR (h.map Pt.y) := by
  obtain ⟨m1, m2, m3, m4, m5⟩ := mapOk_iff.1 hm
  have key : ∀ i, i + 1 < h.length → (decide ((slR (getA zP h i) (getA zP h (i + 1))).num ≤ 0) = true ↔ ¬ ltR (getA zP h i).y (getA zP h (i + 1)).y) := fun i hi => by
    rw [decide_eq_true_eq, ← sl_pos (map_pt hm (by omega)) (map_pt hm hi) (m5 i hi)]; omega
  cases hr : risR (h.map Pt.y) with
  | true =>
    have hr := risR_iff.1 hr
    rw [List.length_map] at hr
    rw [List.any_eq_false.2]
    · rfl
    · intro x hx
      obtain ⟨i, hi, rfl⟩ := List.mem_map.1 hx
      have hi := List.mem_range.1 hi
      rw [(key i (by omega))]
      have := hr i (by omega)
      rw [getA_map Pt.y zP _ _ _ (by omega), getA_map Pt.y zP _ _ _ (by omega)] at this
      exact fun h => h this
  | false =>
    have : ¬ ∀ i, i + 1 < h.length → ltR (getA zP h i).y (getA zP h (i + 1)).y := by
      intro hall
      have : risR (h.map Pt.y) = true := risR_iff.2 (fun i hi => by
        rw [List.length_map] at hi
        rw [getA_map Pt.y zP _ _ _ (by omega), getA_map Pt.y zP _ _ _ (by omega)]; exact hall i hi)
      rw [hr] at this; cases this
    obtain ⟨i, hi⟩ := Classical.not_forall.1 this
    have hi1 : i + 1 < h.length := Classical.byContradiction fun h => hi (fun h2 => (h h2).elim)
    have hi2 : ¬ ltR (getA zP h i).y (getA zP h (i + 1)).y := fun h => hi (fun _ => h)
    rw [List.any_eq_true.2]
    · rfl
    · exact ⟨_, List.mem_map.2 ⟨i, List.mem_range.2 (by omega), rfl⟩, (key i hi1).2 hi2⟩
noncomputable def s_impl_isChange_1 : Sig := ⟨77, [.val .rat], [.val .bool], fun ((s : Rt), _) => ⟨[], (decide (s.num ≤ 0), ()), ()⟩⟩
theorem ok_impl_isChange_1 : GSpec Tryz.prog s_impl_isChange_1 := by
  refine fn_known tab_ok fol Known.nil (by decide) Tryz.func77 ?_
  rintro ⟨⟨(n : Int), (d : Int)⟩, ⟨⟩⟩ - -
  repeat' (first | with_reducible apply andAll_cons | with_reducible apply andAll_nil | (with_reducible apply Cf.mk; kernel_rfl) | apply And.intro | intro _ | exact True.intro | apply Lf.mk)
  all_goals rfl
noncomputable def s_impl_isChange : Sig := ⟨53, [.list .pt], [.val .bool], fun ((h : List Pt), _) => ⟨[], (chOk h, ()), ()⟩⟩
noncomputable def s_spec_cjGood : Sig := ⟨27, [.list .pt], [.val .bool], fun ((h : List Pt), _) => ⟨[], (chOk h, ()), ()⟩⟩
theorem ch_no0 {h : List Pt} (hm : mapOk h = false) : false = chOk h := by unfold chOk; rw [hm]; rfl
theorem ch_fin {h : List Pt} (hm : mapOk h = true) : (((mapOk h && eqRt (getA zP h (Int.toNat 0)).y ⟨0, 1⟩) && eqRt (getA zP h ((h.length : Int) - 1).toNat).y ⟨1, 1⟩) && !((slL h (h.length - 1)).any fun s => decide (s.num ≤ 0))) = chOk h := by
  have := (mapOk_iff.1 hm).1
  unfold chOk
  rw [sl_all hm, Bool.not_not, Bool.and_assoc, Bool.and_assoc, show ((h.length : Int) - 1).toNat = h.length - 1 by omega]
  rfl
theorem ch_noA {h : List Pt} (hA : (mapOk h && eqRt (getA zP h (Int.toNat 0)).y ⟨0, 1⟩) = false) : false = chOk h := by
  unfold chOk
  rw [← Bool.and_assoc]
  have hA : (mapOk h && eqRt (getA zP h 0).y ⟨0, 1⟩) = false := hA
  rw [hA]; rfl
theorem ch_noB {h : List Pt} (hm : mapOk h = true) (hA : ((mapOk h && eqRt (getA zP h (Int.toNat 0)).y ⟨0, 1⟩) && eqRt (getA zP h ((h.length : Int) - 1).toNat).y ⟨1, 1⟩) = false) : false = chOk h := by
  have := (mapOk_iff.1 hm).1
  unfold chOk
  rw [← Bool.and_assoc, ← Bool.and_assoc]
  rw [show ((h.length : Int) - 1).toNat = h.length - 1 by omega] at hA
  have hA : ((mapOk h && eqRt (getA zP h 0).y ⟨0, 1⟩) && eqRt (getA zP h (h.length - 1)).y ⟨1, 1⟩) = false := hA
  rw [hA]; rfl
theorem ok_impl_isChange : GSpec Tryz.prog s_impl_isChange := by
  refine fn_known tab_ok fol ((((((Known.nil.cons ok_impl_isMap (by kernel_rfl)).cons ok_impl_zero (by kernel_rfl)).cons ok_impl_oneRat (by kernel_rfl)).cons ok_impl_slopes (by kernel_rfl)).cons ok_lib_ContainsFuncRat (by kernel_rfl)).cons ok_impl_isChange_1 (by kernel_rfl)) (by decide) Tryz.func53 ?_
  rintro ⟨(h : List Pt), ⟨⟩⟩ ⟨hl, _⟩ -
  have hl : h.length ≤ 9223372036854775807 := hl
  repeat' (first | with_reducible apply andAll_cons | with_reducible apply andAll_nil | (with_reducible apply Cf.mk; kernel_rfl) | apply And.intro | intro _ | exact True.intro | apply Lf.mk)
  all_goals (try simp only [cond_and, List.drop_zero, List.take_length, Nat.zero_add] at *)
  all_goals first
    | omega
    | assumption
    | exact ch_no0 (by assumption)
    | contradiction
    | rfl
    | (have hm := (mapOk_iff.1 (by assumption : mapOk h = true)).1; omega)
    | (have hm := (mapOk_iff.1 (by assumption : mapOk h = true)).1; show Int.toNat 0 < _; simp; omega)
    | exact ch_noA (by assumption)
    | exact ch_noB (by assumption) (by assumption)
    | exact ch_fin (by assumption)
    | skip
theorem bL {P Q : Bool} (h : (bif !P then true else Q) = false) : Q = false := by revert h; cases P <;> cases Q <;> decide
theorem bL' {P Q : Bool} (h : (bif !P then true else Q) = true) (h2 : P = true) : Q = true := by revert h h2; cases P <;> cases Q <;> decide
theorem bM {X Q : Bool} (h : (bif X then true else !Q) = true) (h2 : X = false) : Q = false := by revert h h2; cases X <;> cases Q <;> decide
theorem bN {X Q : Bool} (h : (bif X then true else !Q) = false) : Q = true := by revert h; cases X <;> cases Q <;> decide
theorem ch_y0 {h : List Pt} (hm : mapOk h = true) (h2 : ((getA zP h (Int.toNat 0)).y.num != 0) = false) : (getA zP h 0).y = ⟨0, 1⟩ := by
  have h3 : (getA zP h 0).y.num = 0 := by simpa using h2
  have hl := (mapOk_iff.1 hm).1
  exact good_eq (coord_good (ptOk_iff.1 (map_pt hm (by omega))).2) good_zero (by rw [h3]; simp)
theorem ch_noy0 {h : List Pt} (h2 : ((getA zP h (Int.toNat 0)).y.num != 0) = true) : false = chOk h := by
  symm; rw [Bool.eq_false_iff]; intro hc
  have := (chOk_iff.1 hc).2.1
  have h3 : ((getA zP h 0).y.num != 0) = true := h2
  rw [this] at h3; cases h3
theorem ch_noyl {h : List Pt} (hm : mapOk h = true) (h2 : eqRt (getA zP h ((h.length : Int) - 1).toNat).y ⟨1, 1⟩ = false) : false = chOk h := by
  have hl := (mapOk_iff.1 hm).1
  symm; rw [Bool.eq_false_iff]; intro hc
  have := (chOk_iff.1 hc).2.2.1
  rw [show ((h.length : Int) - 1).toNat = h.length - 1 by omega, this] at h2
  cases h2
theorem ch_nolt {h : List Pt} {i : Nat} (hi : i + 1 < h.length) (h2 : ¬ ltR (getA zP h i).y (getA zP h (i + 1)).y) : false = chOk h := by
  symm; rw [Bool.eq_false_iff]; intro hc
  exact h2 ((chOk_iff.1 hc).2.2.2 i hi)
theorem ch_yes {h : List Pt} (hm : mapOk h = true) (h0 : (getA zP h 0).y = ⟨0, 1⟩) (h1 : eqRt (getA zP h ((h.length : Int) - 1).toNat).y ⟨1, 1⟩ = true) (h2 : ∀ i, i + 1 < h.length → ltR (getA zP h i).y (getA zP h (i + 1)).y) : true = chOk h := by
  have hl := (mapOk_iff.1 hm).1
  symm
  rw [show ((h.length : Int) - 1).toNat = h.length - 1 by omega] at h1
  exact chOk_iff.2 ⟨hm, h0, of_decide_eq_true h1, h2⟩
theorem ge_nlt {a b : Rt} (h : 0 ≤ cmpRt a b) : ¬ ltR a b := fun h2 => by have := cmpRt_neg.2 h2; omega
theorem nge_lt {a b : Rt} (h : ¬ 0 ≤ cmpRt a b) : ltR a b := cmpRt_neg.1 (by omega)
theorem ok_spec_cjGood : GSpec Tryz.prog s_spec_cjGood := by
  refine fn_known tab_ok fol (((Known.nil.cons ok_spec_imGood (by kernel_rfl)).cons ok_spec_raCmp (by kernel_rfl)).cons ok_spec_raInt (by kernel_rfl)) (by decide) Tryz.func27 ?_
  rintro ⟨(h : List Pt), ⟨⟩⟩ ⟨hl, _⟩ -
  have hl : h.length ≤ 9223372036854775807 := hl
  repeat' (first | with_reducible apply andAll_cons | with_reducible apply andAll_nil | (with_reducible apply Cf.mk; kernel_rfl) | apply And.intro | intro _ | exact True.intro | apply Lf.mk)
  all_goals (try simp only [Bool.not_eq_true', Bool.not_eq_false', Bool.not_not, decide_eq_true_eq, decide_eq_false_iff_not, beq_iff_eq, bne_iff_ne, beq_eq_false_iff_ne, bne_eq_false_iff_eq, ne_eq, Bool.and_eq_true, Bool.and_eq_false_iff, Bool.or_eq_true, Bool.or_eq_false_iff, Int.toNat_natCast, Nat.zero_add, Int.ofNat_lt, Int.ofNat_le, List.length_cons, List.length_nil, List.drop_zero, List.take_length] at *)
  all_goals first
    | omega
    | contradiction
    | (exact absurd (by assumption : true = false) (by decide))
    | assumption
    | exact ch_no0 (by assumption)
    | (have hm := (mapOk_iff.1 (by assumption : mapOk h = true)).1; omega)
    | exact ch_noy0 (bL' (by assumption) (by assumption))
    | exact ch_noyl (by assumption) (bM (by assumption) (by assumption))
    | skip
  rename_i hm q1 q2
  have hb := (mapOk_iff.1 hm).1
  have y0 := ch_y0 hm (bL q1)
  have y1 := bN q2
  refine ⟨Nat, fun i => ⟨[(3, .sc (.num .i64 ((i : Int) + 1)))], [100000], []⟩, fun i => i + 1 ≤ h.length ∧ ∀ j, j < i → ltR (getA zP h j).y (getA zP h (j + 1)).y, fun i => h.length - i, ⟨0, ⟨by omega, fun j hj => by omega⟩, ?_⟩, ?_⟩
  · repeat' (first | apply And.intro | exact True.intro | exact Lf.mk (by with_reducible rfl) | apply Lf.mk)
    all_goals rfl
  · rintro i ⟨g1, g2⟩
    repeat' (first | with_reducible apply andAll_cons | with_reducible apply andAll_nil | (with_reducible apply Cf.mk; kernel_rfl) | apply And.intro | intro _ | exact True.intro | apply Lf.mk)
    all_goals (try simp only [Bool.not_eq_true', Bool.not_eq_false', Bool.not_not, decide_eq_true_eq, decide_eq_false_iff_not, beq_iff_eq, bne_iff_ne, beq_eq_false_iff_ne, bne_eq_false_iff_eq, ne_eq, Bool.and_eq_true, Bool.and_eq_false_iff, Bool.or_eq_true, Bool.or_eq_false_iff, Int.toNat_natCast, Nat.zero_add, Int.ofNat_lt, Int.ofNat_le, List.length_cons, List.length_nil, List.drop_zero, List.take_length] at *)
    all_goals (try simp only [show ((i : Int) + 1 - 1).toNat = i by omega, show ((i : Int) + 1).toNat = i + 1 by omega] at *)
    all_goals first
      | omega
      | exact coord_good (ptOk_iff.1 (map_pt hm (by omega))).2
      | skip
    · rename_i q3 q4
      exact ch_nolt (by omega) (ge_nlt q4)
    · rename_i q3 q4
      refine ⟨i + 1, ⟨by omega, fun j hj => ?_⟩, by omega, ?_⟩
      · rcases Nat.lt_or_eq_of_le (Nat.le_of_lt_succ hj) with h7 | h7
        · exact g2 j h7
        · rw [h7]; exact nge_lt q4
      · repeat' (first | apply And.intro | exact True.intro | exact Lf.mk (by with_reducible rfl) | apply Lf.mk)
        all_goals (rw [Int.natCast_add]; rfl)
    · exact ch_yes hm y0 y1 (fun j hj => g2 j (by omega))
noncomputable def s_impl_exchanged : Sig := ⟨93, [.list .pt], [.list 46 .pt], fun ((f : List Pt), _) => ⟨[f.length ≤ 1000000000], (exR f, ()), ()⟩⟩
theorem ok_impl_exchanged : GSpec Tryz.prog s_impl_exchanged := by
  refine fn_known tab_ok fol Known.nil (by decide) Tryz.func93 ?_
  rintro ⟨(f : List Pt), ⟨⟩⟩ ⟨hl, _⟩ ⟨h1, _⟩
  refine ⟨Nat, fun i => ⟨[(8, .sc (.num .i64 i)), (3, .sc (.own 7777777))], [100000], [(7777777, .row 46 .pt (exR (f.take i)))]⟩, fun i => i ≤ f.length, fun i => f.length - i, ⟨0, Nat.zero_le _, ?_⟩, ?_⟩
  · repeat' (first | apply And.intro | exact True.intro | exact Lf.mk (by with_reducible rfl) | apply Lf.mk)
    all_goals first | rfl | simp
  · intro i g1
    have hm : (exR (f.take i)).length = i := by rw [exR_length]; simp; omega
    repeat' (first | with_reducible apply andAll_cons | with_reducible apply andAll_nil | (with_reducible apply Cf.mk; kernel_rfl) | apply And.intro | intro _ | exact True.intro | apply Lf.mk)
    all_goals simp only [hm] at *
    all_goals (try simp only [Bool.not_eq_true', Bool.not_eq_false', Bool.not_not, decide_eq_true_eq, decide_eq_false_iff_not, beq_iff_eq, bne_iff_ne, beq_eq_false_iff_ne, bne_eq_false_iff_eq, ne_eq, Bool.and_eq_true, Bool.and_eq_false_iff, Bool.or_eq_true, Bool.or_eq_false_iff, Int.toNat_natCast, Nat.zero_add, Int.ofNat_lt, Int.ofNat_le, List.length_cons, List.length_nil, List.drop_zero, List.take_length] at *)
    all_goals first | omega | (show (_ + 1) * 32 ≤ 140737488355328; omega) | skip
    · refine ⟨i + 1, by omega, by omega, ?_⟩
      repeat' (first | apply And.intro | exact True.intro | exact Lf.mk (by with_reducible rfl) | apply Lf.mk)
      all_goals first | (rw [Int.natCast_add]; rfl) | exact map_take_succ (fun p : Pt => (⟨p.y, p.x⟩ : Pt)) zP f i (by assumption)
    · rw [List.take_of_length_le (by omega)]
noncomputable def icRes (h : List Pt) : List Pt × Bool := match chOk h with
  | true => (exR h, true)
  | false => ([], false)
theorem ic_t {h : List Pt} (hc : chOk h = true) : icRes h = (exR h, true) := by unfold icRes; rw [hc]
theorem ic_f {h : List Pt} (hc : chOk h = false) : icRes h = ([], false) := by unfold icRes; rw [hc]
theorem ch_len {h : List Pt} (hc : chOk h = true) : 2 ≤ h.length ∧ h.length ≤ 12 := (mapOk_iff.1 (chOk_iff.1 hc).1).1
theorem ic_len (h : List Pt) : (icRes h).1.length ≤ 12 := by
  cases hc : chOk h with
  | false => rw [ic_f hc]; exact Nat.zero_le _
  | true => rw [ic_t hc]; have := ch_len hc; dsimp only; rw [exR_length]; omega
noncomputable def s_calc_back : Sig := ⟨94, [.cell cT .bool, .val .pt, .val .pt, .val .rat], [.val .rat], fun ((c : Bool), (p : Pt), (q : Pt), (y : Rt), _) => ⟨[ptOk p = true, ptOk q = true, ltR p.x q.x, goodRt y = true], (backO p (slR p q) y, ()), (c || !(backR p (slR p q) y).2, ())⟩⟩
theorem ok_calc_back : GSpec Tryz.prog s_calc_back := by
  refine fn_known tab_ok fol ((((Known.nil.cons ok_calc_sub (by kernel_rfl)).cons ok_calc_slope (by kernel_rfl)).cons ok_calc_div (by kernel_rfl)).cons ok_calc_add (by kernel_rfl)) (by decide) Tryz.func94 ?_
  rintro ⟨(c : Bool), ⟨⟨(n : Int), (d : Int)⟩, ⟨(m : Int), (e : Int)⟩⟩, ⟨⟨(n' : Int), (d' : Int)⟩, ⟨(m' : Int), (e' : Int)⟩⟩, ⟨(n2 : Int), (d2 : Int)⟩, ⟨⟩⟩ - ⟨h1, h2, h3, h4, _⟩
  obtain ⟨s1, s2, s3⟩ := slR_ok h1 h2 h3
  have hp := ptOk_iff.1 h1
  have g1 := coord_good hp.1
  have g2 := coord_good hp.2
  have hf := back_flag c ⟨⟨n, d⟩, ⟨m, e⟩⟩ (slR ⟨⟨n, d⟩, ⟨m, e⟩⟩ ⟨⟨n', d'⟩, ⟨m', e'⟩⟩) ⟨n2, d2⟩
  dsimp only at *
  repeat' (first | with_reducible apply andAll_cons | with_reducible apply andAll_nil | (with_reducible apply Cf.mk; kernel_rfl) | apply And.intro | intro _ | exact True.intro | apply Lf.mk)
  all_goals first | assumption | exact opR_good | exact hf | rfl | skip
noncomputable def s_spec_imBack : Sig := ⟨71, [.val .pt, .val .pt, .val .rat], [.val .rat, .val .bool], fun ((p : Pt), (q : Pt), (y : Rt), _) => ⟨[ptOk p = true, ptOk q = true, ltR p.x q.x, goodRt y = true], ((backR p (slR p q) y).1, (backR p (slR p q) y).2, ()), ()⟩⟩
theorem ok_spec_imBack : GSpec Tryz.prog s_spec_imBack := by
  refine fn_known tab_ok fol ((((Known.nil.cons ok_spec_raSub (by kernel_rfl)).cons ok_spec_imSlope (by kernel_rfl)).cons ok_spec_raDiv (by kernel_rfl)).cons ok_spec_raAdd (by kernel_rfl)) (by decide) Tryz.func71 ?_
  rintro ⟨⟨⟨(n : Int), (d : Int)⟩, ⟨(m : Int), (e : Int)⟩⟩, ⟨⟨(n' : Int), (d' : Int)⟩, ⟨(m' : Int), (e' : Int)⟩⟩, ⟨(n2 : Int), (d2 : Int)⟩, ⟨⟩⟩ - ⟨h1, h2, h3, h4, _⟩
  obtain ⟨s1, s2, s3⟩ := slR_ok h1 h2 h3
  have hp := ptOk_iff.1 h1
  have g1 := ok_good (coord_good hp.1)
  have g2 := ok_good (coord_good hp.2)
  have g3 := ok_good h4
  have g4 := ok_good s2
  dsimp only at *
  repeat' (first | with_reducible apply andAll_cons | with_reducible apply andAll_nil | (with_reducible apply Cf.mk; kernel_rfl) | apply And.intro | intro _ | exact True.intro | apply Lf.mk)
  all_goals (try simp only [Bool.not_eq_true', Bool.not_eq_false', Bool.not_not, decide_eq_true_eq, decide_eq_false_iff_not, beq_iff_eq, bne_iff_ne, beq_eq_false_iff_ne, bne_eq_false_iff_eq, ne_eq, Bool.and_eq_true, Bool.and_eq_false_iff, Bool.or_eq_true, Bool.or_eq_false_iff, Int.toNat_natCast, Nat.zero_add, Int.ofNat_lt, Int.ofNat_le, List.length_cons, List.length_nil, List.drop_zero, List.take_length] at *)
  all_goals first | assumption | exact lowRt_ok | skip
  · rename_i q1; exact congrArg Prod.fst (backR_1 (p := ⟨⟨n, d⟩, ⟨m, e⟩⟩) (s := slR ⟨⟨n, d⟩, ⟨m, e⟩⟩ ⟨⟨n', d'⟩, ⟨m', e'⟩⟩) (y := ⟨n2, d2⟩) q1).symm
  · rename_i q1; exact congrArg Prod.snd (backR_1 (p := ⟨⟨n, d⟩, ⟨m, e⟩⟩) (s := slR ⟨⟨n, d⟩, ⟨m, e⟩⟩ ⟨⟨n', d'⟩, ⟨m', e'⟩⟩) (y := ⟨n2, d2⟩) q1).symm
  · rename_i q1 q2; exact congrArg Prod.fst (backR_2 (p := ⟨⟨n, d⟩, ⟨m, e⟩⟩) (s := slR ⟨⟨n, d⟩, ⟨m, e⟩⟩ ⟨⟨n', d'⟩, ⟨m', e'⟩⟩) (y := ⟨n2, d2⟩) q1 q2).symm
  · rename_i q1 q2; exact congrArg Prod.snd (backR_2 (p := ⟨⟨n, d⟩, ⟨m, e⟩⟩) (s := slR ⟨⟨n, d⟩, ⟨m, e⟩⟩ ⟨⟨n', d'⟩, ⟨m', e'⟩⟩) (y := ⟨n2, d2⟩) q1 q2).symm
  · rename_i q1 q2; exact congrArg Prod.fst (backR_3 (p := ⟨⟨n, d⟩, ⟨m, e⟩⟩) (s := slR ⟨⟨n, d⟩, ⟨m, e⟩⟩ ⟨⟨n', d'⟩, ⟨m', e'⟩⟩) (y := ⟨n2, d2⟩) q1 q2).symm
  · rename_i q1 q2; exact congrArg Prod.snd (backR_3 (p := ⟨⟨n, d⟩, ⟨m, e⟩⟩) (s := slR ⟨⟨n, d⟩, ⟨m, e⟩⟩ ⟨⟨n', d'⟩, ⟨m', e'⟩⟩) (y := ⟨n2, d2⟩) q1 q2).symm
noncomputable def s_calc_changeBack : Sig := ⟨79, [.cell cT .bool, .list .pt, .val .rat], [.val .rat], fun ((c : Bool), (h : List Pt), (y : Rt), _) => ⟨[chOk h = true, unitRt y = true], (chO h y, ()), (c || !(chB h y).2, ())⟩⟩
theorem ok_calc_changeBack : GSpec Tryz.prog s_calc_changeBack := by
  refine fn_known tab_ok fol (((Known.nil.cons ok_impl_exchanged (by kernel_rfl)).cons ok_impl_pieceAt (by kernel_rfl)).cons ok_calc_back (by kernel_rfl)) (by decide) Tryz.func79 ?_
  rintro ⟨(c : Bool), (h : List Pt), ⟨(n : Int), (d : Int)⟩, ⟨⟩⟩ ⟨hl, _⟩ ⟨h1, h2, _⟩
  obtain ⟨p1, p2, p3⟩ := ch_piece h1 h2
  obtain ⟨k1, k2, k3, k4⟩ := chOk_iff.1 h1
  obtain ⟨m1, m2, m3, m4, m5⟩ := mapOk_iff.1 k1
  have a1 := map_pt k1 (i := pcN (exR h) ⟨n, d⟩) (by omega)
  have a2 := map_pt k1 (i := pcN (exR h) ⟨n, d⟩ + 1) (by omega)
  have e1 : ∀ p ∈ exR h, goodRt p.x = true := fun p hp => coord_good (ptOk_iff.1 ((mapOk_iff.1 (ex_map h1)).2.1 p hp)).1
  repeat' (first | with_reducible apply andAll_cons | with_reducible apply andAll_nil | (with_reducible apply Cf.mk; kernel_rfl) | apply And.intro | intro _ | exact True.intro | apply Lf.mk)
  all_goals (try simp only [Bool.not_eq_true', Bool.not_eq_false', Bool.not_not, decide_eq_true_eq, decide_eq_false_iff_not, beq_iff_eq, bne_iff_ne, beq_eq_false_iff_ne, bne_eq_false_iff_eq, ne_eq, Bool.and_eq_true, Bool.and_eq_false_iff, Bool.or_eq_true, Bool.or_eq_false_iff, Int.toNat_natCast, Nat.zero_add, Int.ofNat_lt, Int.ofNat_le, List.length_cons, List.length_nil, List.drop_zero, List.take_length] at *)
  all_goals (try simp only [Int.toNat_natCast, succ_nat] at *)
  all_goals first | omega | assumption | exact e1 _ (by assumption) | exact unit_good h2 | exact m5 _ p1 | (unfold chO; rfl) | (unfold chB; rfl) | rfl | skip
noncomputable def s_spec_cjBack : Sig := ⟨45, [.list .pt, .val .rat], [.val .rat, .val .bool], fun ((h : List Pt), (y : Rt), _) => ⟨[chOk h = true, unitRt y = true], ((chB h y).1, (chB h y).2, ()), ()⟩⟩
theorem one_nlt {y : Rt} (h : unitRt y = true) (h2 : ltR ⟨1, 1⟩ y) : False := by
  have h3 := unitRt_iff.1 h
  have h4 : (1 : Int) * y.den < y.num * 1 := h2
  omega
theorem ok_spec_cjBack : GSpec Tryz.prog s_spec_cjBack := by
  refine fn_known tab_ok fol ((Known.nil.cons ok_spec_raCmp (by kernel_rfl)).cons ok_spec_imBack (by kernel_rfl)) (by decide) Tryz.func45 ?_
  rintro ⟨(h : List Pt), ⟨(n : Int), (d : Int)⟩, ⟨⟩⟩ ⟨hl, _⟩ ⟨h1, h2, _⟩
  obtain ⟨k1, k2, k3, k4⟩ := chOk_iff.1 h1
  obtain ⟨m1, m2, m3, m4, m5⟩ := mapOk_iff.1 k1
  refine ⟨Nat, fun i => ⟨[(6, .sc (.num .i64 ((i : Int) + 1)))], [100000, 3, 4], []⟩, fun i => i + 1 < h.length ∧ ∀ j, 0 < j → j ≤ i → ltR (getA zP h j).y ⟨n, d⟩, fun i => h.length - i, ⟨0, ⟨by omega, fun j hj hj2 => by omega⟩, ?_⟩, ?_⟩
  · repeat' (first | apply And.intro | exact True.intro | exact Lf.mk (by with_reducible rfl) | apply Lf.mk)
    all_goals rfl
  · rintro i ⟨g1, g2⟩
    repeat' (first | with_reducible apply andAll_cons | with_reducible apply andAll_nil | (with_reducible apply Cf.mk; kernel_rfl) | apply And.intro | intro _ | exact True.intro | apply Lf.mk)
    all_goals (try simp only [Bool.not_eq_true', Bool.not_eq_false', Bool.not_not, decide_eq_true_eq, decide_eq_false_iff_not, beq_iff_eq, bne_iff_ne, beq_eq_false_iff_ne, bne_eq_false_iff_eq, ne_eq, Bool.and_eq_true, Bool.and_eq_false_iff, Bool.or_eq_true, Bool.or_eq_false_iff, Int.toNat_natCast, Nat.zero_add, Int.ofNat_lt, Int.ofNat_le, List.length_cons, List.length_nil, List.drop_zero, List.take_length] at *)
    all_goals (try simp only [show ((i : Int) + 1 - 1).toNat = i by omega, show ((i : Int) + 1).toNat = i + 1 by omega] at *)
    all_goals first
      | omega
      | exact unit_good h2
      | exact coord_good (ptOk_iff.1 (map_pt k1 (by omega))).2
      | exact map_pt k1 (by omega)
      | exact m5 i g1
      | skip
    · rename_i q1
      have q2 : ltR (getA zP h (i + 1)).y ⟨n, d⟩ := cmpRt_neg.1 q1
      have hi : i + 2 < h.length := by
        rcases Nat.lt_or_ge (i + 2) h.length with h5 | h5
        · exact h5
        · rw [show i + 1 = h.length - 1 by omega, k3] at q2
          exact (one_nlt h2 q2).elim
      refine ⟨i + 1, ⟨by omega, fun j hj hj2 => ?_⟩, by omega, ?_⟩
      · rcases Nat.lt_or_eq_of_le hj2 with h7 | h7
        · exact g2 j hj (by omega)
        · rw [h7]; exact q2
      · repeat' (first | apply And.intro | exact True.intro | exact Lf.mk (by with_reducible rfl) | apply Lf.mk)
        all_goals (rw [Int.natCast_add]; rfl)
    all_goals
      have q2 : ¬ ltR (getA zP h (i + 1)).y ⟨n, d⟩ := fun h5 => (by assumption : ¬ cmpRt _ _ < 0) (cmpRt_neg.2 h5)
      have e : i = pcN (exR h) ⟨n, d⟩ := pc_uniq (ex_map h1) h2 (fun j hj hj2 => by rw [exR_get (by omega)]; exact g2 j hj hj2) (fun h5 => by rw [exR_get (by omega)] at h5; exact q2 h5.2) (by rw [exR_length]; exact g1)
      first
        | (unfold chB; rw [← e]; done)
        | (unfold chB; rw [← e]; rfl)
end Go.Vx
