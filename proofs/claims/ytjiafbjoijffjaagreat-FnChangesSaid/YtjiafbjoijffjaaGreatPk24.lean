/- Return maps: the reference's function. -/
import Derived.Test.YtjiafbjoijffjaaGreatPk23
import Derived.Test.YtjiafbjoijffjaaGreatPk19
namespace Go.Vx
open Go Go.Proofs
set_option maxRecDepth 100000
set_option linter.unusedSimpArgs false
set_option linter.unusedVariables false

noncomputable def s_spec_coCompose : Sig := ⟨165, [.list .pt, .list .pt], [.list 107 .pt, .val .bool], fun ((f : List Pt), (g : List Pt), _) => ⟨[mapOk f = true, mapOk g = true], ((cpR g f).1, (cpR g f).2, ()), ()⟩⟩
theorem cp_bad1 {g f : List Pt} (h : bdG g f = false) : cpR g f = ([], false) := by unfold cpR cpG; rw [h]; rfl
theorem cp_bad2 {g f : List Pt} {i : Nat} (hi : i < cpN g f) (h : (twR g f (getA zR (cpO g f) i)).2 = false) : cpR g f = ([], false) := by
  unfold cpR cpG
  rw [ptG_f hi h, Bool.and_false]; rfl
theorem cp_bad3 {g f : List Pt} {i : Nat} (hi : i < (cpO g f).length) (h : (vR g (getA zR (cpO g f) i)).2 = false) : cpR g f = ([], false) := cp_bad2 hi (by rw [twR_f h])
theorem cp_bad4 {g f : List Pt} {i : Nat} (hi : i < (cpO g f).length) (h : (vR g (getA zR (cpO g f) i)).2 = true) (h2 : (vR f (vR g (getA zR (cpO g f) i)).1).2 = false) : cpR g f = ([], false) := cp_bad2 hi (by rw [twR_t h]; exact h2)
theorem pt_next {g f : List Pt} {z : List Rt} {i : Nat} (h : (vR g (getA zR z i)).2 = true) (h2 : (vR f (vR g (getA zR z i)).1).2 = true) : ptL g f z i ++ [⟨getA zR z i, (vR f (vR g (getA zR z i)).1).1⟩] = ptL g f z (i + 1) ∧ (ptG g f z i = true → ptG g f z (i + 1) = true) := by
  have e : twR g f (getA zR z i) = vR f (vR g (getA zR z i)).1 := twR_t h
  have e2 : twO g f (getA zR z i) = (vR f (vR g (getA zR z i)).1).1 := by rw [twO_t (by rw [e]; exact h2), e]
  refine ⟨by rw [ptL_succ, e2], fun hg => by rw [ptG_succ, hg, e, h2]; rfl⟩
theorem cp_good {g f : List Pt} (h1 : bdG g f = true) (h2 : ptG g f (cpO g f) (cpN g f) = true) : cpR g f = fnR false (cpL g f) := by
  unfold cpR cpG
  rw [h1, h2]; rfl
set_option maxHeartbeats 4000000 in
theorem ok_spec_coCompose : GSpec Tryz.prog s_spec_coCompose := by
  refine fn_known tab_ok fol (((((Known.nil.cons ok_spec_coXs (by kernel_rfl)).cons ok_spec_imBefore (by kernel_rfl)).cons ok_spec_imPut (by kernel_rfl)).cons ok_spec_imAt (by kernel_rfl)).cons ok_spec_coIf (by kernel_rfl)) (by decide) Tryz.func165 ?_
  rintro ⟨(f : List Pt), (g : List Pt), ⟨⟩⟩ ⟨hl, hl2, _⟩ ⟨h1, h2, _⟩
  have l1 := (mapOk_iff.1 h1).1
  have l2 := (mapOk_iff.1 h2).1
  repeat' (first | with_reducible apply andAll_cons | with_reducible apply andAll_nil | (with_reducible apply Cf.mk; kernel_rfl) | apply And.intro | intro _ | exact True.intro | apply Lf.mk)
  all_goals first | (simp only [List.drop_zero, List.take_length]; omega) | skip
  refine ⟨Nat, fun j => ⟨[(24, .sc (.num .i64 j)), (6, .sc (.own 7777777))], [100000, 100001], [(7777777, .row 26 .rat (putsL [] (cpRaw g f j)))]⟩, fun j => j ≤ f.length ∧ bdG_ g f j = true, fun j => f.length - j, ⟨0, ⟨Nat.zero_le _, bdG_zero g f⟩, ?_⟩, ?_⟩
  · have e2 : putsL [] (cpRaw g f 0) = g.map Pt.x := by have := cp_eq (f := f) h2 0; rw [← this]; simp [putsL_nil]
    repeat' (first | apply And.intro | exact True.intro | exact Lf.mk (by with_reducible rfl) | apply Lf.mk)
    all_goals first | rfl | exact e2.symm | (simp only [List.drop_zero, List.take_length]; exact e2.symm) | trace_state
  · rintro j ⟨k1, k2⟩
    have q4 := cpRaw_len (f := f) l2.2 j
    have q5 := putsL_len (cpRaw g f j) []
    have q6 : Gd (putsL [] (cpRaw g f j)) := putsL_good Gd.nil (cpRaw_gd h2 j)
    simp only [List.length_nil] at q5
    repeat' (first | with_reducible apply andAll_cons | with_reducible apply andAll_nil | (with_reducible apply Cf.mk; kernel_rfl) | apply And.intro | intro _ | exact True.intro | apply Lf.mk)
    all_goals (try simp only [List.drop_zero, List.take_length] at *)
    all_goals (try simp only [Bool.not_eq_true', Bool.not_eq_false', Bool.not_not, decide_eq_true_eq, decide_eq_false_iff_not, beq_iff_eq, bne_iff_ne, beq_eq_false_iff_ne, bne_eq_false_iff_eq, ne_eq, Bool.and_eq_true, Bool.and_eq_false_iff, Bool.or_eq_true, Bool.or_eq_false_iff, Int.toNat_natCast, Nat.zero_add, Int.ofNat_lt, Int.ofNat_le, List.length_cons, List.length_nil, List.drop_zero, List.take_length] at *)
    all_goals first | omega | skip
    · exact pt_gd h1 (by omega)
    · rw [cp_bad1 (bdG_f (i := j) (by omega) (by assumption))]
    · rw [cp_bad1 (bdG_f (i := j) (by omega) (by assumption))]
    · rename_i h5 h6
      have h7 := bfR_1 (f := g) (y := (getA zP f j).x) h6
      have q7 := @bfO_len g (getA zP f j).x l2.2
      refine ⟨Nat, fun k => ⟨[(39, .sc (.num .i64 k)), (6, .sc (.own 8888888))], [100000, 100001, 200320], [(8888888, .row 26 .rat (putsL [] (cpRaw g f j ++ ((bfR g (getA zP f j).x).1).take k)))]⟩, fun k => k ≤ (bfR g (getA zP f j).x).1.length, fun k => (bfR g (getA zP f j).x).1.length - k, ⟨0, Nat.zero_le _, ?_⟩, ?_⟩
      · have e2 : putsL [] (cpRaw g f j ++ ((bfR g (getA zP f j).x).1).take 0) = putsL [] (cpRaw g f j) := by rw [List.take_zero, List.append_nil]
        repeat' (first | apply And.intro | exact True.intro | exact Lf.mk (by with_reducible rfl) | apply Lf.mk)
        all_goals first | rfl | exact e2.symm | exact e2 | trace_state
      · rintro k k3
        have q8 : Gd (cpRaw g f j ++ ((bfR g (getA zP f j).x).1).take k) := by
          refine (cpRaw_gd h2 j).app fun x hx => ?_
          rw [h7] at hx
          exact bfO_gd h2 x (List.mem_of_mem_take hx)
        have q9 : (cpRaw g f j ++ ((bfR g (getA zP f j).x).1).take k).length ≤ 1000 := by
          rw [List.length_append, List.length_take, h7]; omega
        have q10 := putsL_len (cpRaw g f j ++ ((bfR g (getA zP f j).x).1).take k) []
        have q11 : Gd (putsL [] (cpRaw g f j ++ ((bfR g (getA zP f j).x).1).take k)) := putsL_good Gd.nil q8
        have q12 : k < (bfR g (getA zP f j).x).1.length → goodRt (getA zR (bfR g (getA zP f j).x).1 k) = true := fun hk => bfO_gd h2 _ (by rw [← h7]; exact getA_mem _ hk)
        simp only [List.length_nil] at q10
        have q13 : (bfR g (getA zP f j).x).1.length ≤ 24 := by rw [h7]; exact q7
        repeat' (first | with_reducible apply andAll_cons | with_reducible apply andAll_nil | (with_reducible apply Cf.mk; kernel_rfl) | apply And.intro | intro _ | exact True.intro | apply Lf.mk)
        all_goals (try simp only [Bool.not_eq_true', Bool.not_eq_false', Bool.not_not, decide_eq_true_eq, decide_eq_false_iff_not, beq_iff_eq, bne_iff_ne, beq_eq_false_iff_ne, bne_eq_false_iff_eq, ne_eq, Bool.and_eq_true, Bool.and_eq_false_iff, Bool.or_eq_true, Bool.or_eq_false_iff, Int.toNat_natCast, Nat.zero_add, Int.ofNat_lt, Int.ofNat_le, List.length_cons, List.length_nil, List.drop_zero, List.take_length] at *)
        all_goals (try have k5 : k < (bfR g (getA zP f j).x).1.length := (by assumption))
        all_goals first | omega | exact q11 _ (by assumption) | exact q12 (by assumption) | skip
        · have k4 : k < (bfR g (getA zP f j).x).1.length := by assumption
          have e : putL (putsL [] (cpRaw g f j ++ ((bfR g (getA zP f j).x).1).take k)) (getA zR (bfR g (getA zP f j).x).1 k) = putsL [] (cpRaw g f j ++ ((bfR g (getA zP f j).x).1).take (k + 1)) := by
            rw [take_next zR k4, ← List.append_assoc, putsL_one']
          refine ⟨k + 1, Nat.succ_le_of_lt k4, Nat.sub_succ_lt_self _ _ k4, ?_⟩
          repeat' (first | apply And.intro | exact True.intro | exact Lf.mk (by with_reducible rfl) | apply Lf.mk)
          all_goals first | rfl | exact e | (rw [Int.natCast_add]; rfl) | trace_state
        · have k4 : ¬ k < (bfR g (getA zP f j).x).1.length := by assumption
          have e : putsL [] (cpRaw g f j ++ ((bfR g (getA zP f j).x).1).take k) = putsL [] (cpRaw g f (j + 1)) := by
            rw [List.take_of_length_le (by omega), h7, cpRaw_succ]
          refine ⟨j + 1, ⟨by omega, bdG_next k2 h6⟩, by omega, ?_⟩
          repeat' (first | apply And.intro | exact True.intro | exact Lf.mk (by with_reducible rfl) | apply Lf.mk)
          all_goals first | rfl | exact e | (rw [Int.natCast_add]; rfl) | trace_state
    have e3 : j = f.length := by omega
    subst e3
    have e4 : bdG g f = true := by unfold bdG; exact k2
    have e5 : putsL [] (cpRaw g f f.length) = cpO g f := by unfold cpO; rfl
    have hN := cpO_len h2 h1
    have h2N := cp_two (f := f) h2
    refine ⟨Nat, fun i => ⟨[(50, .sc (.num .i64 i)), (13, .sc (.own 8888888))], [100000, 100001, 7777777], [(8888888, .row 107 .pt (ptL g f (cpO g f) i))]⟩, fun i => i ≤ cpN g f ∧ ptG g f (cpO g f) i = true, fun i => cpN g f - i, ⟨0, ⟨Nat.zero_le _, ptG_zero g f _⟩, ?_⟩, ?_⟩
    · have e1 := ptL_zero g f (cpO g f)
      repeat' (first | apply And.intro | exact True.intro | exact Lf.mk (by with_reducible rfl) | apply Lf.mk)
      all_goals first | rfl | exact e1.symm | (rw [e1]; rfl) | trace_state
    · rintro i ⟨g1, g2⟩
      have q1 : i < cpN g f → unitRt (getA zR (cpO g f) i) = true := fun hi => cp_unit h2 h1 (getA_mem _ hi)
      have q2 := ptL_len g f (cpO g f) i
      have q3 := cp_good (g := g) (f := f) e4
      have e6 := e5
      repeat' (first | with_reducible apply andAll_cons | with_reducible apply andAll_nil | (with_reducible apply Cf.mk; kernel_rfl) | apply And.intro | intro _ | exact True.intro | apply Lf.mk)
      all_goals (try simp only [List.drop_zero, List.take_length, e5] at *)
      all_goals (try simp only [Bool.not_eq_true', Bool.not_eq_false', Bool.not_not, decide_eq_true_eq, decide_eq_false_iff_not, beq_iff_eq, bne_iff_ne, beq_eq_false_iff_ne, bne_eq_false_iff_eq, ne_eq, Bool.and_eq_true, Bool.and_eq_false_iff, Bool.or_eq_true, Bool.or_eq_false_iff, Int.toNat_natCast, Nat.zero_add, Int.ofNat_lt, Int.ofNat_le, List.length_cons, List.length_nil, List.drop_zero, List.take_length] at *)
      all_goals first | omega | skip
      · exact q1 (by assumption)
      · rw [cp_bad3 (i := i) (by assumption) (by assumption)]
      · rw [cp_bad3 (i := i) (by assumption) (by assumption)]
      · exact vR_unit h2 (q1 (by assumption)) (by assumption)
      · rw [cp_bad4 (i := i) (by assumption) (by assumption) (by assumption)]
      · rw [cp_bad4 (i := i) (by assumption) (by assumption) (by assumption)]
      · show (_ + 1) * 32 ≤ 140737488355328; omega
      · obtain ⟨n1, n2⟩ := pt_next (g := g) (f := f) (z := cpO g f) (i := i) (by assumption) (by assumption)
        have hlt : i < (cpO g f).length := (by assumption)
        refine ⟨i + 1, ⟨Nat.succ_le_of_lt hlt, n2 g2⟩, Nat.sub_succ_lt_self _ _ hlt, ?_⟩
        repeat' (first | apply And.intro | exact True.intro | exact Lf.mk (by with_reducible rfl) | apply Lf.mk)
        all_goals first | rfl | exact n1 | (rw [Int.natCast_add]; rfl) | trace_state
      all_goals (have e7 : i = cpN g f := Nat.le_antisymm g1 (Nat.not_lt.1 (by assumption)))
      all_goals subst e7
      all_goals first
        | (rw [ptL_len]; omega)
        | (rw [ptL_len]; exact Nat.le_trans hN (by decide))
        | exact (cp_units h2 h1 _ (by assumption)).1
        | exact (cp_units h2 h1 _ (by assumption)).2
        | exact cp_rs h2 h1 (by assumption)
        | (rw [q3 g2]; done)
        | trace_state
noncomputable def s_spec_coSame : Sig := ⟨164, [], [.list 107 .pt], fun _ => ⟨[], (idM, ()), ()⟩⟩
theorem ok_spec_coSame : GSpec Tryz.prog s_spec_coSame := by
  refine fn_known tab_ok fol (Known.nil.cons ok_spec_raInt (by kernel_rfl)) (by decide) Tryz.func164 ?_
  rintro ⟨⟩ - -
  repeat' (first | with_reducible apply andAll_cons | with_reducible apply andAll_nil | (with_reducible apply Cf.mk; kernel_rfl) | apply And.intro | intro _ | exact True.intro | apply Lf.mk)
  all_goals first | rfl | omega | trace_state
noncomputable def s_spec_coPower : Sig := ⟨92, [.list .pt, .val NI], [.list 107 .pt, .val .bool], fun ((f : List Pt), (n : Int), _) => ⟨[mapOk f = true, 0 ≤ n, n ≤ 60], ((pwR f n.toNat).1, (pwR f n.toNat).2, ()), ()⟩⟩
theorem ok_spec_coPower : GSpec Tryz.prog s_spec_coPower := by
  refine fn_known tab_ok fol ((Known.nil.cons ok_spec_coSame (by kernel_rfl)).cons ok_spec_coCompose (by kernel_rfl)) (by decide) Tryz.func92 ?_
  rintro ⟨(f : List Pt), (n : Int), ⟨⟩⟩ ⟨hl, _⟩ ⟨hm, hn1, hn2, _⟩
  have hn1 : 0 ≤ n := hn1
  have hn2 : n ≤ 60 := hn2
  repeat' (first | with_reducible apply andAll_cons | with_reducible apply andAll_nil | (with_reducible apply Cf.mk; kernel_rfl) | apply And.intro | intro _ | exact True.intro | apply Lf.mk)
  refine ⟨Nat, fun i => ⟨[(1, .sc (.num .i64 (n - (i : Int)))), (6, .sc (.own 7777777))], [100000], [(7777777, .row 107 .pt (pwR f i).1)]⟩, fun i => i ≤ n.toNat ∧ (pwR f i).2 = true, fun i => n.toNat - i, ⟨0, ⟨Nat.zero_le _, by rw [pwR_zero]⟩, ?_⟩, ?_⟩
  · have e1 := pwR_zero f
    repeat' (first | apply And.intro | exact True.intro | exact Lf.mk (by with_reducible rfl) | apply Lf.mk)
    all_goals first | rfl | (rw [e1]; done) | omega | trace_state
  · rintro i ⟨g1, g2⟩
    have q1 := pw_map hm g2
    have q2 := pwR_t g2
    repeat' (first | with_reducible apply andAll_cons | with_reducible apply andAll_nil | (with_reducible apply Cf.mk; kernel_rfl) | apply And.intro | intro _ | exact True.intro | apply Lf.mk)
    all_goals (try simp only [List.drop_zero, List.take_length] at *)
    all_goals (try simp only [Bool.not_eq_true', Bool.not_eq_false', Bool.not_not, decide_eq_true_eq, decide_eq_false_iff_not, beq_iff_eq, bne_iff_ne, beq_eq_false_iff_ne, bne_eq_false_iff_eq, ne_eq, Bool.and_eq_true, Bool.and_eq_false_iff, Bool.or_eq_true, Bool.or_eq_false_iff, Int.toNat_natCast, Nat.zero_add, Int.ofNat_lt, Int.ofNat_le, List.length_cons, List.length_nil, List.drop_zero, List.take_length] at *)
    all_goals first | omega | exact hm | exact q1 | (show inI64 _; unfold inI64; omega) | skip
    all_goals first
      | (have hb : (cpR (pwR f i).1 f).2 = false := (by assumption)
         have := pw_stay (f := f) (k := i + 1) (by rw [q2]; exact hb) (n := n.toNat) (by omega)
         rw [this]
         done)
      | (have hb : (cpR (pwR f i).1 f).2 = true := (by assumption)
         refine ⟨i + 1, ⟨by omega, by rw [q2]; exact hb⟩, by omega, ?_⟩
         repeat' (first | apply And.intro | exact True.intro | exact Lf.mk (by with_reducible rfl) | apply Lf.mk)
         all_goals first | rfl | (rw [q2]; done) | omega | trace_state)
      | (rw [show n.toNat = i by omega]; first | done | exact g2.symm)
      | trace_state
noncomputable def s_impl_ReturnMap : Sig := ⟨27, [.list .pt, .val .iv, .val NI], [.list 107 .pt, .val .bool], fun ((f : List Pt), (i : Iv), (n : Int), _) => ⟨[], ((rmRes f i n).1, (rmRes f i n).2, ()), ()⟩⟩
noncomputable def s_spec_ReturnMap : Sig := ⟨24, [.list .pt, .val .iv, .val NI], [.list 107 .pt, .val .bool], fun ((f : List Pt), (i : Iv), (n : Int), _) => ⟨[], ((rmRes f i n).1, (rmRes f i n).2, ()), ()⟩⟩
set_option maxHeartbeats 4000000 in
theorem ok_impl_ReturnMap : GSpec Tryz.prog s_impl_ReturnMap := by
  refine fn_known tab_ok fol (((((((Known.nil.cons ok_impl_ReturnsAfter (by kernel_rfl)).cons ok_impl_PowerOfMap (by kernel_rfl)).cons ok_impl_less (by kernel_rfl)).cons ok_impl_rising (by kernel_rfl)).cons ok_calc_scaleOut (by kernel_rfl)).cons ok_calc_value (by kernel_rfl)).cons ok_calc_finish (by kernel_rfl)) (by decide) Tryz.func27 ?_
  rintro ⟨(f : List Pt), ⟨⟨(a1 : Int), (a2 : Int)⟩, ⟨(b1 : Int), (b2 : Int)⟩⟩, (n : Int), ⟨⟩⟩ ⟨hl, _⟩ -
  repeat' (first | with_reducible apply andAll_cons | with_reducible apply andAll_nil | (with_reducible apply Cf.mk; kernel_rfl) | apply And.intro | intro _ | exact True.intro | apply Lf.mk)
  all_goals (try simp only [List.drop_zero, List.take_length] at *)
  all_goals (try simp only [Bool.not_eq_true', Bool.not_eq_false', Bool.not_not, decide_eq_true_eq, decide_eq_false_iff_not, beq_iff_eq, bne_iff_ne, beq_eq_false_iff_ne, bne_eq_false_iff_eq, ne_eq, Bool.and_eq_true, Bool.and_eq_false_iff, Bool.or_eq_true, Bool.or_eq_false_iff, Int.toNat_natCast, Nat.zero_add, Int.ofNat_lt, Int.ofNat_le, List.length_cons, List.length_nil, List.drop_zero, List.take_length] at *)
  all_goals first | (rw [rm_f1 (by assumption)]; done) | (rw [rm_f2 (by assumption)]; done) | (rw [rm_f3 (by assumption)]; done) | skip
  rename_i r1 r2 r3
  obtain ⟨hg, hi, hB⟩ := rm_back r1 r2 r3
  have hres := rm_t r1 r2 r3
  generalize hgg : (pmRes f n).1 = g at *
  have lg := (mapOk_iff.1 hg).1
  obtain ⟨w1, w2, w3, w4, w5⟩ := iv_q hi
  have w1 : goodRt ⟨a1, a2⟩ = true := w1
  have w2 : goodRt ⟨b1, b2⟩ = true := w2
  refine ⟨Nat, fun k => ⟨[(47, .sc (.num .i64 k)), (12, .sc (.own 7777777))], [200350, 4], [(7777777, .row 26 .rat (rmRaw g ⟨⟨a1, a2⟩, ⟨b1, b2⟩⟩ k))]⟩, fun k => k ≤ g.length, fun k => g.length - k, ⟨0, Nat.zero_le _, ?_⟩, ?_⟩
  · have e1 := rmRaw_zero g ⟨⟨a1, a2⟩, ⟨b1, b2⟩⟩
    repeat' (first | apply And.intro | exact True.intro | exact Lf.mk (by with_reducible rfl) | apply Lf.mk)
    all_goals first | rfl | exact e1.symm | trace_state
  · rintro k g1
    have q1 := rmRaw_len g ⟨⟨a1, a2⟩, ⟨b1, b2⟩⟩ k
    repeat' (first | with_reducible apply andAll_cons | with_reducible apply andAll_nil | (with_reducible apply Cf.mk; kernel_rfl) | apply And.intro | intro _ | exact True.intro | apply Lf.mk)
    all_goals (try simp only [hgg] at *)
    all_goals (try simp only [Bool.not_eq_true', Bool.not_eq_false', Bool.not_not, decide_eq_true_eq, decide_eq_false_iff_not, beq_iff_eq, bne_iff_ne, beq_eq_false_iff_ne, bne_eq_false_iff_eq, ne_eq, Bool.and_eq_true, Bool.and_eq_false_iff, Bool.or_eq_true, Bool.or_eq_false_iff, Int.toNat_natCast, Nat.zero_add, Int.ofNat_lt, Int.ofNat_le, List.length_cons, List.length_nil, List.drop_zero, List.take_length] at *)
    all_goals first | omega | skip
    all_goals first
      | ((with_reducible show goodRt _ = true); exact pt_gd hg (by assumption))
      | (show (_ + 1) * 16 ≤ 140737488355328; omega)
      | (have c1 : lessRt ⟨a1, a2⟩ (getA zP g k).x = true := (by assumption)
         have c2 : lessRt (getA zP g k).x ⟨b1, b2⟩ = true := (by assumption)
         have e := rmRaw_t (g := g) (i := ⟨⟨a1, a2⟩, ⟨b1, b2⟩⟩) (n := k) c1 c2
         refine ⟨k + 1, by omega, by omega, ?_⟩
         repeat' (first | apply And.intro | exact True.intro | exact Lf.mk (by with_reducible rfl) | apply Lf.mk)
         all_goals first | rfl | exact e | (rw [Int.natCast_add]; rfl) | trace_state)
      | (have c1 : lessRt ⟨a1, a2⟩ (getA zP g k).x = false := (by assumption)
         have e := rmRaw_f1 (g := g) (i := ⟨⟨a1, a2⟩, ⟨b1, b2⟩⟩) (n := k) c1
         refine ⟨k + 1, by omega, by omega, ?_⟩
         repeat' (first | apply And.intro | exact True.intro | exact Lf.mk (by with_reducible rfl) | apply Lf.mk)
         all_goals first | rfl | exact e | (rw [Int.natCast_add]; rfl) | trace_state)
      | (have c2 : lessRt (getA zP g k).x ⟨b1, b2⟩ = false := (by assumption)
         have e := rmRaw_f2 (g := g) (i := ⟨⟨a1, a2⟩, ⟨b1, b2⟩⟩) (n := k) c2
         refine ⟨k + 1, by omega, by omega, ?_⟩
         repeat' (first | apply And.intro | exact True.intro | exact Lf.mk (by with_reducible rfl) | apply Lf.mk)
         all_goals first | rfl | exact e | (rw [Int.natCast_add]; rfl) | trace_state)
      | (exfalso; exact absurd ‹true = false› Bool.noConfusion)
      | (exfalso; exact absurd ‹false = true› Bool.noConfusion)
      | skip
    all_goals (have e7 : k = g.length := by omega)
    all_goals subst e7
    · exact rmRaw_gd hg hi (Nat.le_refl _) _ (by assumption)
    have ez : putsL [] (rmRaw g ⟨⟨a1, a2⟩, ⟨b1, b2⟩⟩ g.length) = rmO g ⟨⟨a1, a2⟩, ⟨b1, b2⟩⟩ := by unfold rmO; rfl
    have hN := rmO_len (⟨⟨a1, a2⟩, ⟨b1, b2⟩⟩ : Iv) hg
    have h2N := rm_two (g := g) hi
    refine ⟨Nat, fun k => ⟨[(72, .sc (.num .i64 k)), (16, .sc (.own 8888888))], [200700, 200350, 4], [(15, .box cT [.bool (!rmG g ⟨⟨a1, a2⟩, ⟨b1, b2⟩⟩ k)]), (8888888, .row 107 .pt (rmL g ⟨⟨a1, a2⟩, ⟨b1, b2⟩⟩ k))]⟩, fun k => k ≤ rmN g ⟨⟨a1, a2⟩, ⟨b1, b2⟩⟩, fun k => rmN g ⟨⟨a1, a2⟩, ⟨b1, b2⟩⟩ - k, ⟨0, Nat.zero_le _, ?_⟩, ?_⟩
    · have e1 := rmL_zero g ⟨⟨a1, a2⟩, ⟨b1, b2⟩⟩
      have e2 := rmG_zero g ⟨⟨a1, a2⟩, ⟨b1, b2⟩⟩
      repeat' (first | apply And.intro | exact True.intro | exact Lf.mk (by with_reducible rfl) | apply Lf.mk)
      all_goals first | rfl | exact e1.symm | (rw [e1]; rfl) | (rw [e2]; rfl) | trace_state
    · rintro k g2
      have q2 : k < (rmO g ⟨⟨a1, a2⟩, ⟨b1, b2⟩⟩).length → unitRt (getA zR (rmO g ⟨⟨a1, a2⟩, ⟨b1, b2⟩⟩) k) = true := fun hk => (rmO_bd hg hi (getA_mem _ hk)).1
      have q3 := rmL_len g ⟨⟨a1, a2⟩, ⟨b1, b2⟩⟩ k
      have q4 := rmL_succ g ⟨⟨a1, a2⟩, ⟨b1, b2⟩⟩ k
      have q5 := @rm_flag g ⟨⟨a1, a2⟩, ⟨b1, b2⟩⟩ k
      repeat' (first | with_reducible apply andAll_cons | with_reducible apply andAll_nil | (with_reducible apply Cf.mk; kernel_rfl) | apply And.intro | intro _ | exact True.intro | apply Lf.mk)
      all_goals (try simp only [hgg, ez] at *)
      all_goals (try simp only [Bool.not_eq_true', Bool.not_eq_false', Bool.not_not, decide_eq_true_eq, decide_eq_false_iff_not, beq_iff_eq, bne_iff_ne, beq_eq_false_iff_ne, bne_eq_false_iff_eq, ne_eq, Bool.and_eq_true, Bool.and_eq_false_iff, Bool.or_eq_true, Bool.or_eq_false_iff, Int.toNat_natCast, Nat.zero_add, Int.ofNat_lt, Int.ofNat_le, List.length_cons, List.length_nil, List.drop_zero, List.take_length] at *)
      all_goals first | omega | skip
      · exact unit_good (q2 (by assumption))
      · exact q2 (by assumption)
      · exact unit_good (vO_unit hg (q2 (by assumption)))
      · show (_ + 1) * 32 ≤ 140737488355328; omega
      · have hlt : k < (rmO g ⟨⟨a1, a2⟩, ⟨b1, b2⟩⟩).length := (by assumption)
        refine ⟨k + 1, Nat.succ_le_of_lt hlt, Nat.sub_succ_lt_self _ _ hlt, ?_⟩
        repeat' (first | apply And.intro | exact True.intro | exact Lf.mk (by with_reducible rfl) | apply Lf.mk)
        all_goals first | rfl | exact q4.symm | exact q5 | (rw [Int.natCast_add]; rfl) | trace_state
      all_goals (have e7 : k = rmN g ⟨⟨a1, a2⟩, ⟨b1, b2⟩⟩ := Nat.le_antisymm g2 (Nat.not_lt.1 (by assumption)))
      all_goals subst e7
      all_goals first
        | (rw [rmL_len]; omega)
        | (rw [rmL_len]; exact Nat.le_trans hN (by decide))
        | exact rm_rs hg hi hB (by simpa using (by assumption : _ = false)) (by assumption)
        | exact rm_rs hg hi hB (by assumption) (by assumption)
        | (rw [hres]; unfold rmR; done)
        | (rw [hres]; unfold rmR; rfl)
        | trace_state

end Go.Vx
namespace Go.Vx
open Go Go.Proofs
set_option maxRecDepth 100000
set_option linter.unusedSimpArgs false
set_option linter.unusedVariables false

noncomputable def ioOk (f : List Pt) (a b : Rt) : Bool := mapOk f && (unitRt a && (unitRt b && !lessRt b a))
noncomputable def ioRes (f : List Pt) (a b : Rt) : Rt × Rt × Bool := match ioOk f a b && imB f a b with
  | true => ((imO f a b).1, (imO f a b).2, true)
  | false => (⟨0, 0⟩, ⟨0, 0⟩, false)
theorem io_t {f : List Pt} {a b : Rt} (h1 : mapOk f = true) (h2 : unitRt a = true) (h3 : unitRt b = true) (h4 : lessRt b a = false) (h5 : imB f a b = true) : ioRes f a b = ((imO f a b).1, (imO f a b).2, true) := by
  unfold ioRes ioOk; rw [h1, h2, h3, h4, h5]; rfl
theorem io_f1 {f : List Pt} {a b : Rt} (h : mapOk f = false) : ioRes f a b = (⟨0, 0⟩, ⟨0, 0⟩, false) := by unfold ioRes ioOk; rw [h]; rfl
theorem io_f2 {f : List Pt} {a b : Rt} (h : [a, b].all unitRt = false) : ioRes f a b = (⟨0, 0⟩, ⟨0, 0⟩, false) := by
  have h2 : (unitRt a && unitRt b) = false := by simpa using h
  unfold ioRes ioOk
  cases h3 : unitRt a with
  | false => cases mapOk f <;> rfl
  | true =>
    rw [h3] at h2
    have h4 : unitRt b = false := h2
    rw [h4]; cases mapOk f <;> rfl
theorem io_f3 {f : List Pt} {a b : Rt} (h : lessRt b a = true) : ioRes f a b = (⟨0, 0⟩, ⟨0, 0⟩, false) := by
  unfold ioRes ioOk; rw [h]; cases mapOk f <;> cases unitRt a <;> cases unitRt b <;> rfl
theorem io_f4 {f : List Pt} {a b : Rt} (h : imB f a b = false) : ioRes f a b = (⟨0, 0⟩, ⟨0, 0⟩, false) := by
  unfold ioRes; rw [h]; cases ioOk f a b <;> rfl
noncomputable def s_impl_ImageOf : Sig := ⟨77, [.list .pt, .val .rat, .val .rat], [.val .rat, .val .rat, .val .bool], fun ((f : List Pt), (a : Rt), (b : Rt), _) => ⟨[], ((ioRes f a b).1, (ioRes f a b).2.1, (ioRes f a b).2.2, ()), ()⟩⟩
theorem ok_impl_ImageOf : GSpec Tryz.prog s_impl_ImageOf := by
  refine fn_known tab_ok fol ((((Known.nil.cons ok_impl_isMap (by kernel_rfl)).cons ok_impl_areUnits (by kernel_rfl)).cons ok_impl_less (by kernel_rfl)).cons ok_calc_image (by kernel_rfl)) (by decide) Tryz.func77 ?_
  rintro ⟨(f : List Pt), ⟨(n : Int), (d : Int)⟩, ⟨(m : Int), (e : Int)⟩, ⟨⟩⟩ - -
  repeat' (first | with_reducible apply andAll_cons | with_reducible apply andAll_nil | (with_reducible apply Cf.mk; kernel_rfl) | apply And.intro | intro _ | exact True.intro | apply Lf.mk)
  all_goals (try simp only [Bool.not_eq_true', Bool.not_eq_false', Bool.not_not, decide_eq_true_eq, decide_eq_false_iff_not, beq_iff_eq, bne_iff_ne, beq_eq_false_iff_ne, bne_eq_false_iff_eq, ne_eq, Bool.and_eq_true, Bool.and_eq_false_iff, Bool.or_eq_true, Bool.or_eq_false_iff, Int.toNat_natCast, Nat.zero_add, Int.ofNat_lt, Int.ofNat_le, List.length_cons, List.length_nil, List.drop_zero, List.take_length] at *)
  all_goals first
    | assumption
    | exact (all2 (by assumption)).1
    | exact (all2 (by assumption)).2
    | exact unit_good (all2 (by assumption)).1
    | exact unit_good (all2 (by assumption)).2
    | (rw [io_f1 (by assumption)]; done)
    | (rw [io_f2 (by assumption)]; done)
    | (rw [io_f3 (by assumption)]; done)
    | (rw [io_f4 ((by assumption : false = true ∨ _).resolve_left Bool.noConfusion)]; done)
    | (rw [io_t (by assumption) (all2 (by assumption)).1 (all2 (by assumption)).2 (by assumption) (by assumption : True ∧ _).2]; done)
    | skip
/-- the image of an interval, if it is one -/
noncomputable def iiRes (f : List Pt) (i : Iv) : Iv × Bool := match mapOk f && (ivOk i && (imB f i.a i.b && !eqRt (imO f i.a i.b).1 (imO f i.a i.b).2)) with
  | true => (⟨(imO f i.a i.b).1, (imO f i.a i.b).2⟩, true)
  | false => (⟨⟨0, 0⟩, ⟨0, 0⟩⟩, false)
theorem ii_t {f : List Pt} {i : Iv} (h1 : mapOk f = true) (h2 : ivOk i = true) (h3 : imB f i.a i.b = true) (h4 : eqRt (imO f i.a i.b).1 (imO f i.a i.b).2 = false) : iiRes f i = (⟨(imO f i.a i.b).1, (imO f i.a i.b).2⟩, true) := by
  unfold iiRes; rw [h1, h2, h3, h4]; rfl
theorem ii_f1 {f : List Pt} {i : Iv} (h : mapOk f = false) : iiRes f i = (⟨⟨0, 0⟩, ⟨0, 0⟩⟩, false) := by unfold iiRes; rw [h]; rfl
theorem ii_f2 {f : List Pt} {i : Iv} (h : ivOk i = false) : iiRes f i = (⟨⟨0, 0⟩, ⟨0, 0⟩⟩, false) := by unfold iiRes; rw [h]; cases mapOk f <;> rfl
theorem ii_f3 {f : List Pt} {i : Iv} (h : imB f i.a i.b = false) : iiRes f i = (⟨⟨0, 0⟩, ⟨0, 0⟩⟩, false) := by unfold iiRes; rw [h]; cases mapOk f <;> cases ivOk i <;> rfl
theorem ii_f4 {f : List Pt} {i : Iv} (h : eqRt (imO f i.a i.b).1 (imO f i.a i.b).2 = true) : iiRes f i = (⟨⟨0, 0⟩, ⟨0, 0⟩⟩, false) := by unfold iiRes; rw [h]; cases mapOk f <;> cases ivOk i <;> cases imB f i.a i.b <;> rfl
theorem lt_asym {a b : Rt} (h : ltR a b) : lessRt b a = false := decide_eq_false (fun h2 => by have h1 : a.num * b.den < b.num * a.den := h; omega)
theorem io_no {f : List Pt} {i : Iv} (hi : ivOk i = true) (h : (ioRes f i.a i.b).2.2 = false) : iiRes f i = (⟨⟨0, 0⟩, ⟨0, 0⟩⟩, false) := by
  obtain ⟨h1, h2, h3⟩ := ivOk_iff.1 hi
  cases hm : mapOk f with
  | false => exact ii_f1 hm
  | true =>
    cases hb : imB f i.a i.b with
    | false => exact ii_f3 hb
    | true => rw [io_t hm h1 h2 (lt_asym h3) hb] at h; cases h
theorem io_yes {f : List Pt} {i : Iv} (hi : ivOk i = true) (h : (ioRes f i.a i.b).2.2 = true) : mapOk f = true ∧ imB f i.a i.b = true ∧ ioRes f i.a i.b = ((imO f i.a i.b).1, (imO f i.a i.b).2, true) := by
  obtain ⟨h1, h2, h3⟩ := ivOk_iff.1 hi
  cases hm : mapOk f with
  | false => rw [io_f1 hm] at h; cases h
  | true =>
    cases hb : imB f i.a i.b with
    | false => rw [io_f4 hb] at h; cases h
    | true => exact ⟨rfl, rfl, io_t hm h1 h2 (lt_asym h3) hb⟩
theorem ii_no {f : List Pt} {i : Iv} (hi : ivOk i = true) (h : (ioRes f i.a i.b).2.2 = true) (he : eqRt (ioRes f i.a i.b).1 (ioRes f i.a i.b).2.1 = true) : iiRes f i = (⟨⟨0, 0⟩, ⟨0, 0⟩⟩, false) := by
  obtain ⟨h1, h2, h3⟩ := io_yes hi h
  rw [h3] at he; exact ii_f4 he
theorem ii_yes {f : List Pt} {i : Iv} (hi : ivOk i = true) (h : (ioRes f i.a i.b).2.2 = true) (he : eqRt (ioRes f i.a i.b).1 (ioRes f i.a i.b).2.1 = false) : (⟨(ioRes f i.a i.b).1, (ioRes f i.a i.b).2.1⟩, true) = iiRes f i := by
  obtain ⟨h1, h2, h3⟩ := io_yes hi h
  rw [h3] at he ⊢; exact (ii_t h1 hi h2 he).symm
theorem ii_ok {f : List Pt} {i : Iv} (h : (iiRes f i).2 = true) : mapOk f = true ∧ ivOk i = true ∧ ivOk (iiRes f i).1 = true ∧ imB f i.a i.b = true ∧ eqRt (imO f i.a i.b).1 (imO f i.a i.b).2 = false := by
  cases hm : mapOk f with
  | false => rw [ii_f1 hm] at h; cases h
  | true =>
    cases hi : ivOk i with
    | false => rw [ii_f2 hi] at h; cases h
    | true =>
      obtain ⟨h1, h2, h3⟩ := ivOk_iff.1 hi
      cases hb : imB f i.a i.b with
      | false => rw [ii_f3 hb] at h; cases h
      | true =>
        cases he : eqRt (imO f i.a i.b).1 (imO f i.a i.b).2 with
        | true => rw [ii_f4 he] at h; cases h
        | false =>
          rw [ii_t hm hi hb he]
          obtain ⟨r1, r2, r3⟩ := imO_rg hm h1 h2
          exact ⟨rfl, rfl, ivOk_iff.2 ⟨r1, r2, lt_of_ne (unit_good r1) (unit_good r2) r3 (by rw [eqRt_dec] at he; exact of_decide_eq_false he)⟩, rfl, rfl⟩
noncomputable def s_impl_ImageInterval : Sig := ⟨16, [.list .pt, .val .iv], [.val .iv, .val .bool], fun ((f : List Pt), (i : Iv), _) => ⟨[], ((iiRes f i).1, (iiRes f i).2, ()), ()⟩⟩
theorem ok_impl_ImageInterval : GSpec Tryz.prog s_impl_ImageInterval := by
  refine fn_known tab_ok fol ((Known.nil.cons ok_impl_isInterval (by kernel_rfl)).cons ok_impl_ImageOf (by kernel_rfl)) (by decide) Tryz.func16 ?_
  rintro ⟨(f : List Pt), ⟨⟨(n : Int), (d : Int)⟩, ⟨(m : Int), (e : Int)⟩⟩, ⟨⟩⟩ - -
  repeat' (first | with_reducible apply andAll_cons | with_reducible apply andAll_nil | (with_reducible apply Cf.mk; kernel_rfl) | apply And.intro | intro _ | exact True.intro | apply Lf.mk)
  all_goals (try simp only [Bool.not_eq_true', Bool.not_eq_false', Bool.not_not, decide_eq_true_eq, decide_eq_false_iff_not, beq_iff_eq, bne_iff_ne, beq_eq_false_iff_ne, bne_eq_false_iff_eq, ne_eq, Bool.and_eq_true, Bool.and_eq_false_iff, Bool.or_eq_true, Bool.or_eq_false_iff, Int.toNat_natCast, Nat.zero_add, Int.ofNat_lt, Int.ofNat_le, List.length_cons, List.length_nil, List.drop_zero, List.take_length] at *)
  all_goals first
    | (rw [ii_f2 (by assumption)]; done)
    | (rw [io_no (i := ⟨⟨n, d⟩, ⟨m, e⟩⟩) (by assumption) (by assumption)]; done)
    | skip
  all_goals rename_i q1 q2 q3
  · exact (congrArg Prod.fst (ii_no q1 q2 q3)).symm
  · exact (congrArg Prod.snd (ii_no q1 q2 q3)).symm
  · exact congrArg Prod.fst (ii_yes q1 q2 q3)
  · exact congrArg Prod.snd (ii_yes q1 q2 q3)
/-- the part of the image of an interval in it -/
noncomputable def ptRes (f : List Pt) (i : Iv) : Iv × Bool := match (iiRes f i).2 with
  | true => (cutR i (iiRes f i).1, meetR i (iiRes f i).1)
  | false => (⟨⟨0, 0⟩, ⟨0, 0⟩⟩, false)
theorem pt_f {f : List Pt} {i : Iv} (h : (iiRes f i).2 = false) : ptRes f i = (⟨⟨0, 0⟩, ⟨0, 0⟩⟩, false) := by unfold ptRes; rw [h]
theorem pt_t {f : List Pt} {i : Iv} (h : (iiRes f i).2 = true) : ptRes f i = (cutR i (iiRes f i).1, meetR i (iiRes f i).1) := by unfold ptRes; rw [h]
noncomputable def s_impl_PartInto : Sig := ⟨50, [.list .pt, .val .iv], [.val .iv, .val .bool], fun ((f : List Pt), (i : Iv), _) => ⟨[], ((ptRes f i).1, (ptRes f i).2, ()), ()⟩⟩
noncomputable def s_spec_PartInto : Sig := ⟨51, [.list .pt, .val .iv], [.val .iv, .val .bool], fun ((f : List Pt), (i : Iv), _) => ⟨[], ((ptRes f i).1, (ptRes f i).2, ()), ()⟩⟩
theorem ok_impl_PartInto : GSpec Tryz.prog s_impl_PartInto := by
  refine fn_known tab_ok fol ((Known.nil.cons ok_impl_ImageInterval (by kernel_rfl)).cons ok_impl_common (by kernel_rfl)) (by decide) Tryz.func50 ?_
  rintro ⟨(f : List Pt), ⟨⟨(n : Int), (d : Int)⟩, ⟨(m : Int), (e : Int)⟩⟩, ⟨⟩⟩ - -
  repeat' (first | with_reducible apply andAll_cons | with_reducible apply andAll_nil | (with_reducible apply Cf.mk; kernel_rfl) | apply And.intro | intro _ | exact True.intro | apply Lf.mk)
  all_goals (try simp only [Bool.not_eq_true', Bool.not_eq_false', Bool.not_not, decide_eq_true_eq, decide_eq_false_iff_not, beq_iff_eq, bne_iff_ne, beq_eq_false_iff_ne, bne_eq_false_iff_eq, ne_eq, Bool.and_eq_true, Bool.and_eq_false_iff, Bool.or_eq_true, Bool.or_eq_false_iff, Int.toNat_natCast, Nat.zero_add, Int.ofNat_lt, Int.ofNat_le, List.length_cons, List.length_nil, List.drop_zero, List.take_length] at *)
  all_goals first
    | (rw [pt_f (by assumption)]; done)
    | exact (ii_ok (by assumption)).2.1
    | exact (ii_ok (by assumption)).2.2.1
    | (rw [pt_t (by assumption)]; done)
    | (rw [pt_t (by assumption)]; rfl)
    | skip
theorem im1_not {f : List Pt} {i : Iv} (hm : mapOk f = true) (hi : ivOk i = true) (hc : ¬ (imgs f i (Int.toNat 1)).2.2 = 0) : (iiRes f i).2 = false := by
  cases hb : imB f i.a i.b with
  | false => rw [ii_f3 hb]
  | true =>
    cases he : eqRt (imO f i.a i.b).1 (imO f i.a i.b).2 with
    | true => rw [ii_f4 he]
    | false =>
      have h := imgs_C (f := f) (i := i) (j := 0) rfl hb he
      exact (hc (by show (imgs f i (0 + 1)).2.2 = 0; rw [h])).elim
theorem im1_yes {f : List Pt} {i : Iv} (hm : mapOk f = true) (hi : ivOk i = true) (hc : (imgs f i (Int.toNat 1)).2.2 = 0) : (iiRes f i).2 = true ∧ (imgs f i (Int.toNat 1)).1.length = 2 ∧ getA zI (imgs f i (Int.toNat 1)).1 (Int.toNat 1) = (iiRes f i).1 := by
  cases hb : imB f i.a i.b with
  | false =>
    have h := imgs_1 (f := f) (i := i) (k := 0) rfl hb
    have hc : (imgs f i (0 + 1)).2.2 = 0 := hc
    rw [h] at hc; cases hc
  | true =>
    cases he : eqRt (imO f i.a i.b).1 (imO f i.a i.b).2 with
    | true =>
      have h := imgs_2 (f := f) (i := i) (k := 0) rfl hb (by rw [eqRt_dec] at he; exact of_decide_eq_true he)
      have hc : (imgs f i (0 + 1)).2.2 = 0 := hc
      rw [h] at hc; cases hc
    | false =>
      have h := imgs_C (f := f) (i := i) (j := 0) rfl hb he
      rw [ii_t hm hi hb he]
      refine ⟨rfl, ?_, ?_⟩
      · show (imgs f i (0 + 1)).1.length = 2
        rw [h]; rfl
      · show getA zI (imgs f i (0 + 1)).1 1 = _
        rw [h]; rfl
theorem sep_comm (i k : Iv) : sepR k i = sepR i k := Bool.or_comm _ _
theorem p_sep {f : List Pt} {i K : Iv} (hi : ivOk i = true) (h2 : (iiRes f i).2 = true) (hK : K = (iiRes f i).1) (hs : sepR K i = true) : (⟨⟨0, 0⟩, ⟨0, 0⟩⟩, false) = ptRes f i := by
  subst hK
  have hm : meetR i (iiRes f i).1 = false := by rw [meet_sep hi (ii_ok h2).2.2.1, ← sep_comm, hs]; rfl
  rw [pt_t h2]; unfold cutR; rw [hm]
theorem p_cut {f : List Pt} {i K : Iv} (hi : ivOk i = true) (h2 : (iiRes f i).2 = true) (hK : K = (iiRes f i).1) (hs : sepR K i = false) : (⟨grR i.a K.a, lsR i.b K.b⟩, true) = ptRes f i := by
  subst hK
  have hm : meetR i (iiRes f i).1 = true := by rw [meet_sep hi (ii_ok h2).2.2.1, ← sep_comm, hs]; rfl
  rw [pt_t h2]; unfold cutR; rw [hm]
theorem bG {P Q : Bool} (h : (bif !P then true else Q) = true) (h2 : P = true) : Q = true := by revert h h2; cases P <;> cases Q <;> decide
theorem bH {P Q : Bool} (h : (bif !P then true else Q) = false) : Q = false := by revert h; cases P <;> cases Q <;> decide
theorem ok_spec_PartInto : GSpec Tryz.prog s_spec_PartInto := by
  refine fn_known tab_ok fol ((((((Known.nil.cons ok_spec_imGood (by kernel_rfl)).cons ok_spec_ivGood (by kernel_rfl)).cons ok_spec_rnImages (by kernel_rfl)).cons ok_spec_ivSeparate (by kernel_rfl)).cons ok_spec_ivGreater (by kernel_rfl)).cons ok_spec_ivLess (by kernel_rfl)) (by decide) Tryz.func51 ?_
  rintro ⟨(f : List Pt), ⟨⟨(n : Int), (d : Int)⟩, ⟨(m : Int), (e : Int)⟩⟩, ⟨⟩⟩ - -
  repeat' (first | with_reducible apply andAll_cons | with_reducible apply andAll_nil | (with_reducible apply Cf.mk; kernel_rfl) | apply And.intro | intro _ | exact True.intro | apply Lf.mk)
  all_goals (try simp only [Bool.not_eq_true', Bool.not_eq_false', Bool.not_not, decide_eq_true_eq, decide_eq_false_iff_not, beq_iff_eq, bne_iff_ne, beq_eq_false_iff_ne, bne_eq_false_iff_eq, ne_eq, Bool.and_eq_true, Bool.and_eq_false_iff, Bool.or_eq_true, Bool.or_eq_false_iff, Int.toNat_natCast, Nat.zero_add, Int.ofNat_lt, Int.ofNat_le, List.length_cons, List.length_nil, List.drop_zero, List.take_length] at *)
  all_goals first
    | assumption
    | omega
    | (rw [pt_f (by rw [ii_f1 (by assumption)])]; done)
    | (rw [pt_f (by rw [ii_f2 (by assumption)])]; done)
    | (rw [pt_f (im1_not (by assumption) (by assumption) (by assumption))]; done)
    | skip
  all_goals first
    | contradiction
    | (exact absurd (by assumption : true = false) (by decide))
    | skip
  all_goals
    have hm := (by assumption : mapOk f = true)
    have hi := (by assumption : ivOk ⟨⟨n, d⟩, ⟨m, e⟩⟩ = true)
    obtain ⟨c1, c2, c3⟩ := im1_yes (f := f) (i := ⟨⟨n, d⟩, ⟨m, e⟩⟩) hm hi (by assumption)
    have hK := (ii_ok c1).2.2.1
    rw [← c3] at hK
    obtain ⟨k1, k2, k3⟩ := ivOk_iff.1 hK
    obtain ⟨i1, i2, i3⟩ := ivOk_iff.1 hi
    first
      | omega
      | (show Int.toNat 1 < _; rw [c2]; decide)
      | exact hK
      | exact unit_good k1
      | exact unit_good k2
      | exact unit_good i1
      | exact unit_good i2
      | skip
  · rename_i q1 q2
    exact congrArg Prod.fst (p_sep hi c1 c3 (bG q2 (decide_eq_true q1)))
  · rename_i q1 q2
    exact congrArg Prod.snd (p_sep hi c1 c3 (bG q2 (decide_eq_true q1)))
  · rename_i q1 q2
    exact congrArg Prod.fst (p_cut hi c1 c3 (bH q2))
  · rename_i q1 q2
    exact congrArg Prod.snd (p_cut hi c1 c3 (bH q2))
end Go.Vx
namespace Go.Vx
open Go Go.Proofs
set_option maxRecDepth 100000
set_option linter.unusedSimpArgs false
set_option linter.unusedVariables false

theorem cmp_lessD (a b : Rt) : decide (cmpRt a b < 0) = lessRt a b := by
  unfold lessRt
  exact decide_eq_decide.2 cmpRt_neg
theorem rm_pt {g : List Pt} {i : Iv} {k : Nat} (h1 : (vR g (getA zR (rmO g i) k)).2 = true) (h2 : (scOut i (getA zR (rmO g i) k)).2 = true) (h3 : (scOut i (vR g (getA zR (rmO g i) k)).1).2 = true) :
    rmL g i k ++ [⟨(scOut i (getA zR (rmO g i) k)).1, (scOut i (vR g (getA zR (rmO g i) k)).1).1⟩] = rmL g i (k + 1) ∧ (rmG g i k = true → rmG g i (k + 1) = true) := by
  have e : vO g (getA zR (rmO g i) k) = (vR g (getA zR (rmO g i) k)).1 := vO_t h1
  refine ⟨by rw [rmL_succ, e, scO_t h2, scO_t h3], fun h => by rw [rmG_succ, h, h1, h2, e, h3]; rfl⟩
theorem rm_bad {g : List Pt} {i : Iv} {k : Nat} (hk : k < (rmO g i).length) (hb : ¬ ((scOut i (getA zR (rmO g i) k)).2 = true ∧ (vR g (getA zR (rmO g i) k)).2 = true ∧ (scOut i (vR g (getA zR (rmO g i) k)).1).2 = true)) : rmR g i = ([], false) := by
  unfold rmR
  rw [rmG_f hk hb]; rfl
theorem lessT {a x y : Rt} (h : cmpRt a x < 0) (e : x = y) : lessRt a y = true := by subst e; exact decide_eq_true (cmpRt_neg.1 h)
theorem lessF {a x y : Rt} (h : ¬ cmpRt a x < 0) (e : x = y) : lessRt a y = false := by subst e; exact decide_eq_false fun h2 => h (cmpRt_neg.2 h2)
theorem lessT' {b x y : Rt} (h : cmpRt x b < 0) (e : x = y) : lessRt y b = true := by subst e; exact decide_eq_true (cmpRt_neg.1 h)
theorem lessF' {b x y : Rt} (h : ¬ cmpRt x b < 0) (e : x = y) : lessRt y b = false := by subst e; exact decide_eq_false fun h2 => h (cmpRt_neg.2 h2)
theorem ra_iff {f : List Pt} {i : Iv} {n : Int} (h : retOk f i n = true) (hc : (imgs f i n.toNat).2.2 = 0) : raRes f i n = (liesR (getA (VK.dflt .iv) (imgs f i n.toNat).1 n.toNat) i, true) := by
  rw [ra_t (ims_00 h hc), ims_0 h hc]
set_option maxHeartbeats 4000000 in
theorem ok_spec_ReturnMap : GSpec Tryz.prog s_spec_ReturnMap := by
  refine fn_known tab_ok fol ((((((((((Known.nil.cons ok_spec_rnAsked (by kernel_rfl)).cons ok_spec_rnImages (by kernel_rfl)).cons ok_spec_rnIn (by kernel_rfl)).cons ok_spec_coPower (by kernel_rfl)).cons ok_spec_coXs (by kernel_rfl)).cons ok_spec_imPut (by kernel_rfl)).cons ok_spec_raCmp (by kernel_rfl)).cons ok_spec_imAt (by kernel_rfl)).cons ok_spec_rnOut (by kernel_rfl)).cons ok_spec_coIf (by kernel_rfl)) (by decide) Tryz.func24 ?_
  rintro ⟨(f : List Pt), ⟨⟨(a1 : Int), (a2 : Int)⟩, ⟨(b1 : Int), (b2 : Int)⟩⟩, (n : Int), ⟨⟩⟩ ⟨hl, _⟩ -
  have p6 : retOk f ⟨⟨a1, a2⟩, ⟨b1, b2⟩⟩ n = true → ¬ 6 < n → pmRes f n = pwR f n.toNat := fun h h2 => by
    have h' := retOk_iff.1 h
    exact pm_t h'.1 (by unfold inB; simp only [Bool.and_eq_true, decide_eq_true_eq]; omega)
  have p7 : 6 < n → pmRes f n = ([], false) := fun h => pm_f2 (by unfold inB; simp only [Bool.and_eq_false_iff, decide_eq_false_iff_not]; omega)
  have p8 : retOk f ⟨⟨a1, a2⟩, ⟨b1, b2⟩⟩ n = true → mapOk f = true ∧ ivOk ⟨⟨a1, a2⟩, ⟨b1, b2⟩⟩ = true ∧ 1 ≤ n ∧ n ≤ 12 := fun h => retOk_iff.1 h
  repeat' (first | with_reducible apply andAll_cons | with_reducible apply andAll_nil | (with_reducible apply Cf.mk; kernel_rfl) | apply And.intro | intro _ | exact True.intro | apply Lf.mk)
  all_goals (try simp only [List.drop_zero, List.take_length] at *)
  all_goals (try simp only [Bool.not_eq_true', Bool.not_eq_false', Bool.not_not, decide_eq_true_eq, decide_eq_false_iff_not, beq_iff_eq, bne_iff_ne, beq_eq_false_iff_ne, bne_eq_false_iff_eq, ne_eq, Bool.and_eq_true, Bool.and_eq_false_iff, Bool.or_eq_true, Bool.or_eq_false_iff, Int.toNat_natCast, Nat.zero_add, Int.ofNat_lt, Int.ofNat_le, List.length_cons, List.length_nil, List.drop_zero, List.take_length] at *)
  all_goals first
    | ((with_reducible show mapOk _ = true); exact (p8 (by assumption)).1)
    | ((with_reducible show ivOk _ = true); exact (p8 (by assumption)).2.1)
    | ((with_reducible show ivOk _ = true); exact (im_facts (by assumption) (by assumption)).2.2.2.1 _ (getA_mem _ (by have := p8 (by assumption); have := im_facts (by assumption : retOk _ _ _ = true) (by assumption); omega)))
    | skip
  all_goals first | (have h8 := p8 (by assumption); omega) | skip
  · rw [rm_f3 (by rw [p7 (by assumption)])]
  · rw [rm_f3 (by rw [p7 (by assumption)])]
  · rename_i hn hr hc; have := p8 hr; have := im_facts hr hc; omega
  · rename_i hn hr hc; have := p8 hr; have := im_facts hr hc; omega
  · rename_i hb hn hr hc
    have hz := bG hb (decide_eq_true hc)
    rw [rm_f2 (by rw [ra_iff hr hc]; exact (by simpa using hz))]
  · rename_i hb hn hr hc
    have hz := bG hb (decide_eq_true hc)
    rw [rm_f2 (by rw [ra_iff hr hc]; exact (by simpa using hz))]
  · rename_i hb hn hr hc hp
    rw [rm_f3 (by rw [p6 hr hn]; exact hp)]
  · rename_i hb hn hr hc hp
    rw [rm_f3 (by rw [p6 hr hn]; exact hp)]
  · rename_i hy hb hn hr hc hp
    rw [List.mem_singleton.1 hy]; exact (iv_q (p8 hr).2.1).1
  · rename_i hb hn hr hc hp
    exact (iv_q (p8 hr).2.1).2.1
  · rename_i hb hn hr hc hp
    exact Nat.le_trans (pw_len (p8 hr).1 _) (by decide)
  · rename_i hb hn hr hc hp
    have hz : liesR (getA (VK.dflt .iv) (imgs f ⟨⟨a1, a2⟩, ⟨b1, b2⟩⟩ n.toNat).1 n.toNat) ⟨⟨a1, a2⟩, ⟨b1, b2⟩⟩ = true := by
      have := bH hb
      simpa using this
    have r1 : (raRes f ⟨⟨a1, a2⟩, ⟨b1, b2⟩⟩ n).2 = true := by rw [ra_iff hr hc]
    have r2 : (raRes f ⟨⟨a1, a2⟩, ⟨b1, b2⟩⟩ n).1 = true := by rw [ra_iff hr hc]; exact hz
    have r3 : (pmRes f n).2 = true := by rw [p6 hr hn]; exact hp
    have hh := rm_back r1 r2 r3
    have hg := hh.1
    have hi := hh.2.1
    have hB := hh.2.2
    have hres := rm_t r1 r2 r3
    rw [p6 hr hn] at hg hB hres
    clear p6 p7 p8 hb hz r1 r2 r3 hh
    refine Exists.elim (⟨_, rfl⟩ : ∃ g, (pwR f n.toNat).1 = g) fun g hgg => ?_
    rw [hgg] at hg hB hres
    have lg := (mapOk_iff.1 hg).1
    have w1 : goodRt ⟨a1, a2⟩ = true := (iv_q hi).1
    have w2 : goodRt ⟨b1, b2⟩ = true := (iv_q hi).2.1
    have lm : (g.map Pt.x).length = g.length := List.length_map ..
    refine ⟨Nat, fun k => ⟨[(68, .sc (.num .i64 k)), (12, .sc (.own 7777777))], [200660, 200540, 4], [(7777777, .row 26 .rat (putsL [] (rmRaw g ⟨⟨a1, a2⟩, ⟨b1, b2⟩⟩ k)))]⟩, fun k => k ≤ g.length, fun k => g.length - k, ⟨0, Nat.zero_le _, ?_⟩, ?_⟩
    · have e1 : putsL [] (rmRaw g ⟨⟨a1, a2⟩, ⟨b1, b2⟩⟩ 0) = putL [⟨a1, a2⟩] ⟨b1, b2⟩ := by rw [rmRaw_zero, putsL_cons, putsL_cons, putsL_nil, putL_nil]
      repeat' (first | apply And.intro | exact True.intro | exact Lf.mk (by with_reducible rfl) | apply Lf.mk)
      all_goals first | rfl | exact e1.symm | (rw [hgg]; exact e1.symm) | trace_state
    · rintro k g1
      have q1 := rmRaw_len g ⟨⟨a1, a2⟩, ⟨b1, b2⟩⟩ k
      have q2 := putsL_len (rmRaw g ⟨⟨a1, a2⟩, ⟨b1, b2⟩⟩ k) []
      have q3 : Gd (putsL [] (rmRaw g ⟨⟨a1, a2⟩, ⟨b1, b2⟩⟩ k)) := putsL_good Gd.nil (rmRaw_gd hg hi g1)
      simp only [List.length_nil] at q2
      have q4 : k < g.length → getA zR (g.map Pt.x) k = (getA zP g k).x := fun hk => getA_map Pt.x zP zR g k hk
      have q5 : k < g.length → goodRt (getA zP g k).x = true := fun hk => pt_gd hg hk
      repeat' (first | with_reducible apply andAll_cons | with_reducible apply andAll_nil | (with_reducible apply Cf.mk; kernel_rfl) | apply And.intro | intro _ | exact True.intro | apply Lf.mk)
      all_goals (try simp only [hgg, lm] at *)
      all_goals (try simp only [Bool.not_eq_true', Bool.not_eq_false', Bool.not_not, decide_eq_true_eq, decide_eq_false_iff_not, beq_iff_eq, bne_iff_ne, beq_eq_false_iff_ne, bne_eq_false_iff_eq, ne_eq, Bool.and_eq_true, Bool.and_eq_false_iff, Bool.or_eq_true, Bool.or_eq_false_iff, Int.toNat_natCast, Nat.zero_add, Int.ofNat_lt, Int.ofNat_le, List.length_cons, List.length_nil, List.drop_zero, List.take_length] at *)
      all_goals first | omega | skip
      all_goals first
        | ((with_reducible show goodRt _ = true); first | exact q3 _ (by assumption) | (have e := q4 (by assumption); have z := q5 (by assumption); rw [← e] at z; exact z))
        | (have hk : k < g.length := (by assumption)
           have c1 := lessT (a := ⟨a1, a2⟩) (x := getA zR (g.map Pt.x) k) (by assumption) (q4 hk)
           have c2 := lessT' (b := ⟨b1, b2⟩) (x := getA zR (g.map Pt.x) k) (by assumption) (q4 hk)
           have e := rmRaw_t (g := g) (i := ⟨⟨a1, a2⟩, ⟨b1, b2⟩⟩) (n := k) c1 c2
           have e2 : putL (putsL [] (rmRaw g ⟨⟨a1, a2⟩, ⟨b1, b2⟩⟩ k)) (getA zR (g.map Pt.x) k) = putsL [] (rmRaw g ⟨⟨a1, a2⟩, ⟨b1, b2⟩⟩ (k + 1)) := by rw [← e, putsL_one', q4 hk]
           refine ⟨k + 1, by omega, by omega, ?_⟩
           repeat' (first | apply And.intro | exact True.intro | exact Lf.mk (by with_reducible rfl) | apply Lf.mk)
           all_goals first | rfl | exact e2 | (rw [Int.natCast_add]; rfl) | trace_state)
        | (have hk : k < g.length := (by assumption)
           have c1 := lessF (a := ⟨a1, a2⟩) (x := getA zR (g.map Pt.x) k) (by assumption) (q4 hk)
           have e := rmRaw_f1 (g := g) (i := ⟨⟨a1, a2⟩, ⟨b1, b2⟩⟩) (n := k) c1
           have e2 : putsL [] (rmRaw g ⟨⟨a1, a2⟩, ⟨b1, b2⟩⟩ k) = putsL [] (rmRaw g ⟨⟨a1, a2⟩, ⟨b1, b2⟩⟩ (k + 1)) := by rw [← e]
           refine ⟨k + 1, by omega, by omega, ?_⟩
           repeat' (first | apply And.intro | exact True.intro | exact Lf.mk (by with_reducible rfl) | apply Lf.mk)
           all_goals first | rfl | exact e2 | (rw [Int.natCast_add]; rfl) | trace_state)
        | (have hk : k < g.length := (by assumption)
           have c2 := lessF' (b := ⟨b1, b2⟩) (x := getA zR (g.map Pt.x) k) (by assumption) (q4 hk)
           have e := rmRaw_f2 (g := g) (i := ⟨⟨a1, a2⟩, ⟨b1, b2⟩⟩) (n := k) c2
           have e2 : putsL [] (rmRaw g ⟨⟨a1, a2⟩, ⟨b1, b2⟩⟩ k) = putsL [] (rmRaw g ⟨⟨a1, a2⟩, ⟨b1, b2⟩⟩ (k + 1)) := by rw [← e]
           refine ⟨k + 1, by omega, by omega, ?_⟩
           repeat' (first | apply And.intro | exact True.intro | exact Lf.mk (by with_reducible rfl) | apply Lf.mk)
           all_goals first | rfl | exact e2 | (rw [Int.natCast_add]; rfl) | trace_state)
        | (exfalso; exact absurd ‹true = false› Bool.noConfusion)
        | (exfalso; exact absurd ‹false = true› Bool.noConfusion)
        | skip
      have e7 : k = g.length := by omega
      subst e7
      have ez : putsL [] (rmRaw g ⟨⟨a1, a2⟩, ⟨b1, b2⟩⟩ g.length) = rmO g ⟨⟨a1, a2⟩, ⟨b1, b2⟩⟩ := by unfold rmO; rfl
      have hN := rmO_len (⟨⟨a1, a2⟩, ⟨b1, b2⟩⟩ : Iv) hg
      have h2N := rm_two (g := g) hi
      refine ⟨Nat, fun k => ⟨[(90, .sc (.num .i64 k)), (15, .sc (.own 8888888))], [7777777, 200540, 4], [(8888888, .row 107 .pt (rmL g ⟨⟨a1, a2⟩, ⟨b1, b2⟩⟩ k))]⟩, fun k => k ≤ rmN g ⟨⟨a1, a2⟩, ⟨b1, b2⟩⟩ ∧ rmG g ⟨⟨a1, a2⟩, ⟨b1, b2⟩⟩ k = true, fun k => rmN g ⟨⟨a1, a2⟩, ⟨b1, b2⟩⟩ - k, ⟨0, ⟨Nat.zero_le _, rmG_zero g _⟩, ?_⟩, ?_⟩
      · have e1 := rmL_zero g ⟨⟨a1, a2⟩, ⟨b1, b2⟩⟩
        repeat' (first | apply And.intro | exact True.intro | exact Lf.mk (by with_reducible rfl) | apply Lf.mk)
        all_goals first | rfl | exact e1.symm | (rw [e1]; rfl) | trace_state
      · rintro k ⟨g2, g3⟩
        have q6 : k < (rmO g ⟨⟨a1, a2⟩, ⟨b1, b2⟩⟩).length → unitRt (getA zR (rmO g ⟨⟨a1, a2⟩, ⟨b1, b2⟩⟩) k) = true := fun hk => (rmO_bd hg hi (getA_mem _ hk)).1
        have q7 := rmL_len g ⟨⟨a1, a2⟩, ⟨b1, b2⟩⟩ k
        repeat' (first | with_reducible apply andAll_cons | with_reducible apply andAll_nil | (with_reducible apply Cf.mk; kernel_rfl) | apply And.intro | intro _ | exact True.intro | apply Lf.mk)
        all_goals (try simp only [hgg, ez] at *)
        all_goals (try simp only [Bool.not_eq_true', Bool.not_eq_false', Bool.not_not, decide_eq_true_eq, decide_eq_false_iff_not, beq_iff_eq, bne_iff_ne, beq_eq_false_iff_ne, bne_eq_false_iff_eq, ne_eq, Bool.and_eq_true, Bool.and_eq_false_iff, Bool.or_eq_true, Bool.or_eq_false_iff, Int.toNat_natCast, Nat.zero_add, Int.ofNat_lt, Int.ofNat_le, List.length_cons, List.length_nil, List.drop_zero, List.take_length] at *)
        all_goals first | omega | skip
        all_goals first
          | ((with_reducible show unitRt _ = true); exact q6 (by assumption))
          | ((with_reducible show goodRt _ = true); first | exact unit_good (q6 (by assumption)) | exact vR_good hg (q6 (by assumption)) (by assumption))
          | (have hlt : k < (rmO g ⟨⟨a1, a2⟩, ⟨b1, b2⟩⟩).length := (by assumption)
             have hb : (vR g (getA zR (rmO g ⟨⟨a1, a2⟩, ⟨b1, b2⟩⟩) k)).2 = false := (by assumption)
             rw [hres, rm_bad (k := k) hlt (fun hh => by rw [hb] at hh; exact absurd hh.2.1 (by decide))]
             done)
          | (have hlt : k < (rmO g ⟨⟨a1, a2⟩, ⟨b1, b2⟩⟩).length := (by assumption)
             have hb : (scOut ⟨⟨a1, a2⟩, ⟨b1, b2⟩⟩ (getA zR (rmO g ⟨⟨a1, a2⟩, ⟨b1, b2⟩⟩) k)).2 = false := (by assumption)
             rw [hres, rm_bad (k := k) hlt (fun hh => by rw [hb] at hh; exact absurd hh.1 (by decide))]
             done)
          | (have hlt : k < (rmO g ⟨⟨a1, a2⟩, ⟨b1, b2⟩⟩).length := (by assumption)
             have hb : (scOut ⟨⟨a1, a2⟩, ⟨b1, b2⟩⟩ (vR g (getA zR (rmO g ⟨⟨a1, a2⟩, ⟨b1, b2⟩⟩) k)).1).2 = false := (by assumption)
             rw [hres, rm_bad (k := k) hlt (fun hh => by rw [hb] at hh; exact absurd hh.2.2 (by decide))]
             done)
          | ((with_reducible show _ ≤ _); show (_ + 1) * 32 ≤ 140737488355328; omega)
          | (have hlt : k < (rmO g ⟨⟨a1, a2⟩, ⟨b1, b2⟩⟩).length := (by assumption)
             have n0 := rm_pt (g := g) (i := ⟨⟨a1, a2⟩, ⟨b1, b2⟩⟩) (k := k) (by assumption) (by assumption) (by assumption)
             refine ⟨k + 1, ⟨Nat.succ_le_of_lt hlt, n0.2 g3⟩, Nat.sub_succ_lt_self _ _ hlt, ?_⟩
             repeat' (first | apply And.intro | exact True.intro | exact Lf.mk (by with_reducible rfl) | apply Lf.mk)
             all_goals first | rfl | exact n0.1 | (rw [Int.natCast_add]; rfl) | trace_state)
          | (exfalso; exact absurd ‹true = false› Bool.noConfusion)
          | (exfalso; exact absurd ‹false = true› Bool.noConfusion)
          | skip
        all_goals (have e7 : k = rmN g ⟨⟨a1, a2⟩, ⟨b1, b2⟩⟩ := Nat.le_antisymm g2 (Nat.not_lt.1 (by assumption)))
        all_goals subst e7
        all_goals first
          | (rw [rmL_len]; omega)
          | (rw [rmL_len]; exact Nat.le_trans hN (by decide))
          | exact (rm_units hg hi hB g3 _ (by assumption)).1
          | exact (rm_units hg hi hB g3 _ (by assumption)).2
          | exact rm_rs hg hi hB g3 (by assumption)
          | (rw [hres]; unfold rmR; rw [g3]; done)
          | (rw [hres]; unfold rmR; rw [g3]; rfl)
          | trace_state
  all_goals first
    | (exfalso; exact absurd ‹true = false› Bool.noConfusion)
    | (rw [rm_f1 (by rw [ra_f (ims_ff (by assumption))])]; done)
    | (have hr : retOk f ⟨⟨a1, a2⟩, ⟨b1, b2⟩⟩ n = true := (by assumption)
       have hc : ¬ (imgs f ⟨⟨a1, a2⟩, ⟨b1, b2⟩⟩ n.toNat).2.2 = 0 := (by assumption)
       rw [rm_f1 (by rw [ra_f (ims_fc hr hc)])]
       done)
    | trace_state
end Go.Vx
