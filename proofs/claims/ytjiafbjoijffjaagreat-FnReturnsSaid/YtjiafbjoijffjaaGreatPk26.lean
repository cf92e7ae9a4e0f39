/- Markov partitions: the reference's helpers, and what is drawn. -/
import Derived.Test.YtjiafbjoijffjaaGreatPk25
import Derived.Test.YtjiafbjoijffjaaGreatPk17
import Derived.Test.YtjiafbjoijffjaaGreatPk21
namespace Go.Vx
open Go Go.Proofs
set_option maxRecDepth 100000
set_option linter.unusedSimpArgs false
set_option linter.unusedVariables false

abbrev lpT : Nat := 24
noncomputable def s_impl_composed_1 : Sig := ⟨222, [.val .rat, .cell cT .bool, .lcell lpT .pt, .lcell lpT .pt], [.val .rat], fun ((x : Rt), (c : Bool), (f : List Pt), (g : List Pt), _) => ⟨[mapOk f = true, mapOk g = true, unitRt x = true], (twO g f x, ()), ((c || !(vR g x).2) || !(vR f (vO g x)).2, ())⟩⟩
theorem ok_impl_composed_1 : GSpec Tryz.prog s_impl_composed_1 := by
  refine fn_known tab_ok fol (Known.nil.cons ok_calc_value (by kernel_rfl)) (by decide) Tryz.func222 ?_
  rintro ⟨⟨(n : Int), (d : Int)⟩, (c : Bool), (f : List Pt), (g : List Pt), ⟨⟩⟩ - ⟨h1, h2, h3, _⟩
  have h4 := vO_unit h2 h3
  repeat' (first | with_reducible apply andAll_cons | with_reducible apply andAll_nil | (with_reducible apply Cf.mk; kernel_rfl) | apply And.intro | intro _ | exact True.intro | apply Lf.mk)
  all_goals (try simp only [List.drop_zero, List.take_length] at *)
  all_goals first | assumption | rfl | (unfold twO; rfl) | trace_state
noncomputable def s_impl_pointsAt : Sig := ⟨221, [.own rT .rat, .cell cT .bool, .lcell lpT .pt, .lcell lpT .pt], [.list 107 .pt], fun ((xs : List Rt), (c : Bool), (f : List Pt), (g : List Pt), _) => ⟨[mapOk f = true, mapOk g = true, ∀ x ∈ xs, unitRt x = true, xs.length ≤ 1000], (ptL g f (putsL [] xs) (putsL [] xs).length, ()), (c || !ptG g f (putsL [] xs) (putsL [] xs).length, ())⟩⟩
theorem ok_impl_pointsAt : GSpec Tryz.prog s_impl_pointsAt := by
  refine fn_known tab_ok fol ((Known.nil.cons ok_impl_rising (by kernel_rfl)).cons ok_impl_composed_1 (by kernel_rfl)) (by decide) Tryz.func221 ?_
  rintro ⟨(xs : List Rt), (c : Bool), (f : List Pt), (g : List Pt), ⟨⟩⟩ - ⟨h1, h2, h3, h4, _⟩
  have h3 : ∀ x ∈ xs, unitRt x = true := h3
  have h4 : xs.length ≤ 1000 := h4
  have hl := putsL_len xs []
  simp only [List.length_nil] at hl
  have hu : ∀ x ∈ putsL [] xs, unitRt x = true := fun x hx => by
    rcases putsL_mem.1 hx with h | h
    · cases h
    · exact h3 x h
  repeat' (first | with_reducible apply andAll_cons | with_reducible apply andAll_nil | (with_reducible apply Cf.mk; kernel_rfl) | apply And.intro | intro _ | exact True.intro | apply Lf.mk)
  all_goals (try simp only [Bool.not_eq_true', Bool.not_eq_false', Bool.not_not, decide_eq_true_eq, decide_eq_false_iff_not, beq_iff_eq, bne_iff_ne, beq_eq_false_iff_ne, bne_eq_false_iff_eq, ne_eq, Bool.and_eq_true, Bool.and_eq_false_iff, Bool.or_eq_true, Bool.or_eq_false_iff, Int.toNat_natCast, Nat.zero_add, Int.ofNat_lt, Int.ofNat_le, List.length_cons, List.length_nil, List.drop_zero, List.take_length] at *)
  all_goals first | exact fun x hx => unit_good (h3 x hx) | exact unit_good (h3 _ (by assumption)) | omega | skip
  refine ⟨Nat, fun i => ⟨[(11, .sc (.num .i64 i)), (5, .sc (.own 7777777))], [200090, 100002, 150002, 100003, 150003], [(7777777, .row 107 .pt (ptL g f (putsL [] xs) i)), (100001, .box cT [.bool (c || !ptG g f (putsL [] xs) i)])]⟩, fun i => i ≤ (putsL [] xs).length, fun i => (putsL [] xs).length - i, ⟨0, Nat.zero_le _, ?_⟩, ?_⟩
  · have e1 := ptL_zero g f (putsL [] xs)
    have e2 := ptG_zero g f (putsL [] xs)
    repeat' (first | apply And.intro | exact True.intro | exact Lf.mk (by with_reducible rfl) | apply Lf.mk)
    all_goals first | rfl | exact e1.symm | (rw [e1]; rfl) | (rw [e2]; cases c <;> rfl) | trace_state
  · rintro i g1
    have q1 : i < (putsL [] xs).length → unitRt (getA zR (putsL [] xs) i) = true := fun hi => hu _ (getA_mem _ hi)
    have q2 := ptL_len g f (putsL [] xs) i
    have q3 := ptL_succ g f (putsL [] xs) i
    have q4 := pt_flag (c := c) (g := g) (f := f) (z := putsL [] xs) (i := i)
    repeat' (first | with_reducible apply andAll_cons | with_reducible apply andAll_nil | (with_reducible apply Cf.mk; kernel_rfl) | apply And.intro | intro _ | exact True.intro | apply Lf.mk)
    all_goals (try simp only [Bool.not_eq_true', Bool.not_eq_false', Bool.not_not, decide_eq_true_eq, decide_eq_false_iff_not, beq_iff_eq, bne_iff_ne, beq_eq_false_iff_ne, bne_eq_false_iff_eq, ne_eq, Bool.and_eq_true, Bool.and_eq_false_iff, Bool.or_eq_true, Bool.or_eq_false_iff, Int.toNat_natCast, Nat.zero_add, Int.ofNat_lt, Int.ofNat_le, List.length_cons, List.length_nil, List.drop_zero, List.take_length] at *)
    all_goals first | omega | exact h1 | exact h2 | exact q1 (by assumption) | (show (_ + 1) * 32 ≤ 140737488355328; omega) | skip
    all_goals first
      | (refine ⟨i + 1, by omega, by omega, ?_⟩
         repeat' (first | apply And.intro | exact True.intro | exact Lf.mk (by with_reducible rfl) | apply Lf.mk)
         all_goals first | rfl | exact q3.symm | exact q4 | (rw [Int.natCast_add]; rfl) | trace_state)
      | (rw [show i = (putsL [] xs).length by omega]; done)
      | trace_state
noncomputable def s_impl_composed : Sig := ⟨172, [.list .pt, .list .pt], [.list 107 .pt, .val .bool], fun ((f : List Pt), (g : List Pt), _) => ⟨[mapOk f = true, mapOk g = true], ((cpR g f).1, (cpR g f).2, ()), ()⟩⟩
theorem ok_impl_composed : GSpec Tryz.prog s_impl_composed := by
  refine fn_known tab_ok fol ((((Known.nil.cons ok_impl_xsOf (by kernel_rfl)).cons ok_calc_before (by kernel_rfl)).cons ok_impl_pointsAt (by kernel_rfl)).cons ok_calc_finish (by kernel_rfl)) (by decide) Tryz.func172 ?_
  rintro ⟨(f : List Pt), (g : List Pt), ⟨⟩⟩ ⟨hl, hl2, _⟩ ⟨h1, h2, _⟩
  have l1 := (mapOk_iff.1 h1).1
  have l2 := (mapOk_iff.1 h2).1
  repeat' (first | with_reducible apply andAll_cons | with_reducible apply andAll_nil | (with_reducible apply Cf.mk; kernel_rfl) | apply And.intro | intro _ | exact True.intro | apply Lf.mk)
  all_goals first | (simp only [List.drop_zero, List.take_length]; omega) | skip
  refine ⟨Nat, fun i => ⟨[(14, .sc (.num .i64 i)), (7, .sc (.own 7777777))], [100000, 100001, 2, 3], [(6, .box cT [.bool (!bdG_ g f i)]), (7777777, .row 26 .rat (cpRaw g f i))]⟩, fun i => i ≤ f.length, fun i => f.length - i, ⟨0, Nat.zero_le _, ?_⟩, ?_⟩
  · have e1 := bdG_zero g f
    have e2 := cpRaw_zero g f
    repeat' (first | apply And.intro | exact True.intro | exact Lf.mk (by with_reducible rfl) | apply Lf.mk)
    all_goals first | rfl | exact e2.symm | (rw [e1]; rfl) | (simp only [List.drop_zero, List.take_length]; exact e2.symm) | trace_state
  · rintro i g1
    have q1 := cpRaw_len (f := f) l2.2 i
    have q2 := @bfO_len g (getA zP f i).x l2.2
    have q3 := cpRaw_succ g f i
    have q4 : (!bdG_ g f i || !bfG g (getA zP f i).x) = !bdG_ g f (i + 1) := by have := bg_step false (f := g) (h := f) (i := i); simpa using this
    have q5 : i < f.length → goodRt (getA zP f i).x = true := fun hi => pt_gd h1 hi
    repeat' (first | with_reducible apply andAll_cons | with_reducible apply andAll_nil | (with_reducible apply Cf.mk; kernel_rfl) | apply And.intro | intro _ | exact True.intro | apply Lf.mk)
    all_goals (try simp only [List.drop_zero, List.take_length] at *)
    all_goals (try simp only [Bool.not_eq_true', Bool.not_eq_false', Bool.not_not, decide_eq_true_eq, decide_eq_false_iff_not, beq_iff_eq, bne_iff_ne, beq_eq_false_iff_ne, bne_eq_false_iff_eq, ne_eq, Bool.and_eq_true, Bool.and_eq_false_iff, Bool.or_eq_true, Bool.or_eq_false_iff, Int.toNat_natCast, Nat.zero_add, Int.ofNat_lt, Int.ofNat_le, List.length_cons, List.length_nil, List.drop_zero, List.take_length] at *)
    all_goals first | omega | exact h1 | exact h2 | exact q5 (by assumption) | (show (_ + List.length (bfO g (getA zP f i).x)) * 16 ≤ 140737488355328; omega) | skip
    · refine ⟨i + 1, by omega, by omega, ?_⟩
      repeat' (first | apply And.intro | exact True.intro | exact Lf.mk (by with_reducible rfl) | apply Lf.mk)
      all_goals first | rfl | exact q3.symm | exact q4 | (rw [Int.natCast_add]; rfl) | trace_state
    all_goals (have e : i = f.length := by omega)
    all_goals (subst e)
    all_goals (have ez : putsL [] (cpRaw g f f.length) = cpO g f := by unfold cpO; rfl)
    all_goals (have eb : bdG_ g f f.length = bdG g f := by unfold bdG; rfl)
    all_goals (try rw [ez])
    all_goals first
      | (have hm : _ ∈ cpRaw g f f.length := (by assumption)
         exact cp_unit h2 h1 (by unfold cpO; exact putsL_mem.2 (.inr hm)))
      | (rw [ptL_len]; exact cp_two h2)
      | (rw [ptL_len]; exact Nat.le_trans (cpO_len h2 h1) (by decide))
      | (have hz : (ptL g f (putsL [] (cpRaw g f f.length)) (putsL [] (cpRaw g f f.length)).length).any bigP = false := (by assumption)
         rw [ez] at hz
         exact cp_rs h2 h1 hz)
      | (unfold cpR; rw [Bool.not_and, eb]; done)
      | trace_state
noncomputable def s_impl_identityMap : Sig := ⟨171, [], [.list 107 .pt], fun _ => ⟨[], (idM, ()), ()⟩⟩
theorem ok_impl_identityMap : GSpec Tryz.prog s_impl_identityMap := by
  refine fn_known tab_ok fol ((Known.nil.cons ok_impl_zero (by kernel_rfl)).cons ok_impl_oneRat (by kernel_rfl)) (by decide) Tryz.func171 ?_
  rintro ⟨⟩ - -
  repeat' (first | with_reducible apply andAll_cons | with_reducible apply andAll_nil | (with_reducible apply Cf.mk; kernel_rfl) | apply And.intro | intro _ | exact True.intro | apply Lf.mk)
  all_goals rfl
noncomputable def s_impl_PowerOfMap : Sig := ⟨100, [.list .pt, .val NI], [.list 107 .pt, .val .bool], fun ((f : List Pt), (n : Int), _) => ⟨[], ((pmRes f n).1, (pmRes f n).2, ()), ()⟩⟩
theorem ok_impl_PowerOfMap : GSpec Tryz.prog s_impl_PowerOfMap := by
  refine fn_known tab_ok fol ((((Known.nil.cons ok_impl_isMap (by kernel_rfl)).cons ok_impl_within (by kernel_rfl)).cons ok_impl_identityMap (by kernel_rfl)).cons ok_impl_composed (by kernel_rfl)) (by decide) Tryz.func100 ?_
  rintro ⟨(f : List Pt), (n : Int), ⟨⟩⟩ ⟨hl, _⟩ -
  repeat' (first | with_reducible apply andAll_cons | with_reducible apply andAll_nil | (with_reducible apply Cf.mk; kernel_rfl) | apply And.intro | intro _ | exact True.intro | apply Lf.mk)
  all_goals (try simp only [List.drop_zero, List.take_length] at *)
  all_goals (try simp only [Bool.not_eq_true', Bool.not_eq_false', Bool.not_not, decide_eq_true_eq, decide_eq_false_iff_not, beq_iff_eq, bne_iff_ne, beq_eq_false_iff_ne, bne_eq_false_iff_eq, ne_eq, Bool.and_eq_true, Bool.and_eq_false_iff, Bool.or_eq_true, Bool.or_eq_false_iff, Int.toNat_natCast, Nat.zero_add, Int.ofNat_lt, Int.ofNat_le, List.length_cons, List.length_nil, List.drop_zero, List.take_length] at *)
  all_goals first | (rw [pm_f1 (by assumption)]; done) | (rw [pm_f2 (by assumption)]; done) | skip
  rename_i hn hm
  have hn' := hn
  unfold inB at hn'
  simp only [Bool.and_eq_true, decide_eq_true_eq] at hn'
  refine ⟨Nat, fun i => ⟨[(18, .sc (.num .i64 i)), (6, .sc (.own 7777777))], [100000], [(7777777, .row 107 .pt (pwR f i).1)]⟩, fun i => i ≤ n.toNat ∧ (pwR f i).2 = true, fun i => n.toNat - i, ⟨0, ⟨Nat.zero_le _, by rw [pwR_zero]⟩, ?_⟩, ?_⟩
  · have e1 := pwR_zero f
    repeat' (first | apply And.intro | exact True.intro | exact Lf.mk (by with_reducible rfl) | apply Lf.mk)
    all_goals first | rfl | (rw [e1]; done) | trace_state
  · rintro i ⟨g1, g2⟩
    have q1 := pw_map hm g2
    have q2 := pwR_t g2
    repeat' (first | with_reducible apply andAll_cons | with_reducible apply andAll_nil | (with_reducible apply Cf.mk; kernel_rfl) | apply And.intro | intro _ | exact True.intro | apply Lf.mk)
    all_goals (try simp only [List.drop_zero, List.take_length] at *)
    all_goals (try simp only [Bool.not_eq_true', Bool.not_eq_false', Bool.not_not, decide_eq_true_eq, decide_eq_false_iff_not, beq_iff_eq, bne_iff_ne, beq_eq_false_iff_ne, bne_eq_false_iff_eq, ne_eq, Bool.and_eq_true, Bool.and_eq_false_iff, Bool.or_eq_true, Bool.or_eq_false_iff, Int.toNat_natCast, Nat.zero_add, Int.ofNat_lt, Int.ofNat_le, List.length_cons, List.length_nil, List.drop_zero, List.take_length] at *)
    all_goals first | omega | exact hm | exact q1 | skip
    all_goals first
      | (have hb : (cpR (pwR f i).1 f).2 = false := (by assumption)
         have := pw_stay (f := f) (k := i + 1) (by rw [q2]; exact hb) (n := n.toNat) (by omega)
         rw [pm_t hm hn, this]
         done)
      | (have hb : (cpR (pwR f i).1 f).2 = true := (by assumption)
         refine ⟨i + 1, ⟨by omega, by rw [q2]; exact hb⟩, by omega, ?_⟩
         repeat' (first | apply And.intro | exact True.intro | exact Lf.mk (by with_reducible rfl) | apply Lf.mk)
         all_goals first | rfl | (rw [q2]; done) | (rw [Int.natCast_add]; rfl) | trace_state)
      | (rw [pm_t hm hn, show n.toNat = i by omega]; first | done | exact g2.symm)
      | trace_state

noncomputable def s_spec_coXs : Sig := ⟨93, [.list .pt], [.list 26 .rat], fun ((f : List Pt), _) => ⟨[f.length ≤ 1000000000], (f.map Pt.x, ()), ()⟩⟩
theorem ok_spec_coXs : GSpec Tryz.prog s_spec_coXs := by
  refine fn_known tab_ok fol Known.nil (by decide) Tryz.func93 ?_
  rintro ⟨(f : List Pt), ⟨⟩⟩ ⟨hl, _⟩ ⟨h1, _⟩
  have h1 : f.length ≤ 1000000000 := h1
  refine ⟨Nat, fun i => ⟨[(8, .sc (.num .i64 i)), (3, .sc (.own 7777777))], [100000], [(7777777, .row 26 .rat ((f.take i).map Pt.x))]⟩, fun i => i ≤ f.length, fun i => f.length - i, ⟨0, Nat.zero_le _, ?_⟩, ?_⟩
  · repeat' (first | apply And.intro | exact True.intro | exact Lf.mk (by with_reducible rfl) | apply Lf.mk)
    all_goals first | rfl | trace_state
  · rintro i g1
    have q2 : ((f.take i).map Pt.x).length = i := by rw [List.length_map, List.length_take]; omega
    repeat' (first | with_reducible apply andAll_cons | with_reducible apply andAll_nil | (with_reducible apply Cf.mk; kernel_rfl) | apply And.intro | intro _ | exact True.intro | apply Lf.mk)
    all_goals (try simp only [Bool.not_eq_true', Bool.not_eq_false', Bool.not_not, decide_eq_true_eq, decide_eq_false_iff_not, beq_iff_eq, bne_iff_ne, beq_eq_false_iff_ne, bne_eq_false_iff_eq, ne_eq, Bool.and_eq_true, Bool.and_eq_false_iff, Bool.or_eq_true, Bool.or_eq_false_iff, Int.toNat_natCast, Nat.zero_add, Int.ofNat_lt, Int.ofNat_le, List.length_cons, List.length_nil, List.drop_zero, List.take_length] at *)
    all_goals first | omega | (show (_ + 1) * 16 ≤ 140737488355328; omega) | skip
    · have e : (f.take i).map Pt.x ++ [(getA zP f i).x] = (f.take (i + 1)).map Pt.x := by rw [mapx_next (by omega)]
      refine ⟨i + 1, by omega, by omega, ?_⟩
      repeat' (first | apply And.intro | exact True.intro | exact Lf.mk (by with_reducible rfl) | apply Lf.mk)
      all_goals first | rfl | exact e | (rw [Int.natCast_add]; rfl) | trace_state
    · rw [List.take_of_length_le (by omega)]
noncomputable def s_spec_coSimple : Sig := ⟨170, [.list .pt], [.list 107 .pt], fun ((f : List Pt), _) => ⟨[2 ≤ f.length, f.length ≤ 1000, rsOk f], (smL f, ()), ()⟩⟩
theorem ok_spec_coSimple : GSpec Tryz.prog s_spec_coSimple := by
  refine fn_known tab_ok fol (Known.nil.cons ok_spec_imSlope (by kernel_rfl)) (by decide) Tryz.func170 ?_
  rintro ⟨(f : List Pt), ⟨⟩⟩ ⟨hl, _⟩ ⟨l1, l2, h1, _⟩
  have l1 : 2 ≤ f.length := l1
  have l2 : f.length ≤ 1000 := l2
  repeat' (first | with_reducible apply andAll_cons | with_reducible apply andAll_nil | (with_reducible apply Cf.mk; kernel_rfl) | apply And.intro | intro _ | exact True.intro | apply Lf.mk)
  all_goals first | omega | skip
  refine ⟨Nat, fun i => ⟨[(4, .sc (.num .i64 ((i : Int) + 1))), (3, .sc (.own 7777777))], [100000], [(7777777, .row 107 .pt (smK f i))]⟩, fun i => i + 1 ≤ f.length, fun i => f.length - i, ⟨0, by omega, ?_⟩, ?_⟩
  · have e := smK_zero f
    repeat' (first | apply And.intro | exact True.intro | exact Lf.mk (by with_reducible rfl) | apply Lf.mk)
    all_goals first | rfl | exact e.symm | trace_state
  · rintro i g1
    have g1 : i + 1 ≤ f.length := g1
    have q1 := smK_len f i
    have q2 := smK_succ f i
    have e1 : ((i : Int) + 1 - 1).toNat = i := by omega
    have e2 : ((i : Int) + 1).toNat = i + 1 := by omega
    have e3 : ((i : Int) + 1 + 1).toNat = i + 1 + 1 := by omega
    repeat' (first | with_reducible apply andAll_cons | with_reducible apply andAll_nil | (with_reducible apply Cf.mk; kernel_rfl) | apply And.intro | intro _ | exact True.intro | apply Lf.mk)
    all_goals (try simp only [e1, e2, e3] at *)
    all_goals (try simp only [Bool.not_eq_true', Bool.not_eq_false', Bool.not_not, decide_eq_true_eq, decide_eq_false_iff_not, beq_iff_eq, bne_iff_ne, beq_eq_false_iff_ne, bne_eq_false_iff_eq, ne_eq, Bool.and_eq_true, Bool.and_eq_false_iff, Bool.or_eq_true, Bool.or_eq_false_iff, Int.toNat_natCast, Nat.zero_add, Int.ofNat_lt, Int.ofNat_le, List.length_cons, List.length_nil, List.drop_zero, List.take_length] at *)
    all_goals first | omega | exact rs_pt h1 (by omega) | exact rs_lt h1 (by omega) | (show (_ + 1) * 32 ≤ 140737488355328; omega) | skip
    · rename_i h4 h5 h6
      rw [beq_eq_false_iff_ne.2 h5, cond_false] at h6
      have h7 : smT f (i + 1) = true := h6
      rw [smI_t (.inr h7)] at q2
      refine ⟨i + 1, by omega, by omega, ?_⟩
      repeat' (first | apply And.intro | exact True.intro | exact Lf.mk (by with_reducible rfl) | apply Lf.mk)
      all_goals first | rfl | exact q2.symm | (rw [Int.natCast_add]; rfl) | trace_state
    · rename_i h4 h5 h6
      rw [beq_eq_false_iff_ne.2 h5, cond_false] at h6
      have h7 : smT f (i + 1) = false := h6
      rw [smI_f (by omega) h7, List.append_nil] at q2
      refine ⟨i + 1, by omega, by omega, ?_⟩
      repeat' (first | apply And.intro | exact True.intro | exact Lf.mk (by with_reducible rfl) | apply Lf.mk)
      all_goals first | rfl | exact q2.symm | (rw [Int.natCast_add]; rfl) | trace_state
    · rename_i h4 h5
      rw [smI_t (.inl (by omega))] at q2
      refine ⟨i + 1, by omega, by omega, ?_⟩
      repeat' (first | apply And.intro | exact True.intro | exact Lf.mk (by with_reducible rfl) | apply Lf.mk)
      all_goals first | rfl | exact q2.symm | (rw [Int.natCast_add]; rfl) | trace_state
    · exact absurd ‹true = false› Bool.noConfusion
    · unfold smL
      rw [show f.length - 1 = i by omega]
noncomputable def s_spec_coIf : Sig := ⟨97, [.list .pt], [.list 107 .pt, .val .bool], fun ((f : List Pt), _) => ⟨[2 ≤ f.length, f.length ≤ 1000, ∀ p ∈ f, unitRt p.x = true ∧ unitRt p.y = true, f.any bigP = false → rsOk f], ((fnR false f).1, (fnR false f).2, ()), ()⟩⟩
theorem big_some {f : List Pt} {i : Nat} (hu : ∀ p ∈ f, unitRt p.x = true ∧ unitRt p.y = true) (hi : i < f.length) (hb : coordRt (getA zP f i).x = false ∨ coordRt (getA zP f i).y = false) : fnR false f = ([], false) := by
  have hm := getA_mem zP hi
  have h1 := pt_big (hu _ hm).1 (hu _ hm).2
  have h2 : ptOk (getA zP f i) = false := by
    unfold ptOk
    rcases hb with h | h <;> rw [h]
    · rfl
    · rw [Bool.and_false]
  rw [h2] at h1
  have h3 : bigP (getA zP f i) = true := by simpa using h1.symm
  have h4 : f.any bigP = true := List.any_eq_true.2 ⟨_, hm, h3⟩
  exact fnR_f (by rw [mdR_t h4])
theorem big_none {f : List Pt} {n : Nat} (hu : ∀ p ∈ f, unitRt p.x = true ∧ unitRt p.y = true) (hn : f.length ≤ n) (h : ∀ i, i < n → i < f.length → coordRt (getA zP f i).x = true ∧ coordRt (getA zP f i).y = true) : f.any bigP = false := by
  rw [List.any_eq_false]
  intro p hp
  obtain ⟨k, hk, rfl⟩ := List.getElem_of_mem hp
  have h2 := h k (by omega) hk
  rw [getA_lt _ _ _ hk] at h2
  have h1 := pt_big (hu _ hp).1 (hu _ hp).2
  rw [ptOk_iff.2 h2] at h1
  intro hb
  rw [hb] at h1
  cases h1
theorem ok_spec_coIf : GSpec Tryz.prog s_spec_coIf := by
  refine fn_known tab_ok fol (((Known.nil.cons ok_spec_imCoord (by kernel_rfl)).cons ok_spec_coSimple (by kernel_rfl)).cons ok_spec_imGood (by kernel_rfl)) (by decide) Tryz.func97 ?_
  rintro ⟨(f : List Pt), ⟨⟩⟩ ⟨hl, _⟩ ⟨l1, l2, h1, h2, _⟩
  have l1 : 2 ≤ f.length := l1
  have l2 : f.length ≤ 1000 := l2
  have h1 : ∀ p ∈ f, unitRt p.x = true ∧ unitRt p.y = true := h1
  have h2 : f.any bigP = false → rsOk f := h2
  refine ⟨Nat, fun i => ⟨[(9, .sc (.num .i64 i))], [100000], []⟩, fun i => i ≤ f.length ∧ ∀ j, j < i → j < f.length → coordRt (getA zP f j).x = true ∧ coordRt (getA zP f j).y = true, fun i => f.length - i, ⟨0, ⟨Nat.zero_le _, fun j hj => by omega⟩, ?_⟩, ?_⟩
  · repeat' (first | apply And.intro | exact True.intro | exact Lf.mk (by with_reducible rfl) | apply Lf.mk)
    all_goals first | rfl | trace_state
  · rintro i ⟨g1, g2⟩
    have q1 : ¬ i < f.length → f.any bigP = false := fun hi => big_none h1 (by omega) g2
    repeat' (first | with_reducible apply andAll_cons | with_reducible apply andAll_nil | (with_reducible apply Cf.mk; kernel_rfl) | apply And.intro | intro _ | exact True.intro | apply Lf.mk)
    all_goals (try simp only [Bool.not_eq_true', Bool.not_eq_false', Bool.not_not, decide_eq_true_eq, decide_eq_false_iff_not, beq_iff_eq, bne_iff_ne, beq_eq_false_iff_ne, bne_eq_false_iff_eq, ne_eq, Bool.and_eq_true, Bool.and_eq_false_iff, Bool.or_eq_true, Bool.or_eq_false_iff, Int.toNat_natCast, Nat.zero_add, Int.ofNat_lt, Int.ofNat_le, List.length_cons, List.length_nil, List.drop_zero, List.take_length] at *)
    all_goals first | omega | (rw [List.drop_zero, List.take_length]; omega) | skip
    all_goals first
      | (have hb : coordRt (getA zP f i).x = false := (by assumption)
         rw [big_some h1 (show i < f.length by assumption) (.inl hb)]
         done)
      | (have hb : coordRt (getA zP f i).y = false := (by assumption)
         rw [big_some h1 (show i < f.length by assumption) (.inr hb)]
         done)
      | (have hb1 : coordRt (getA zP f i).x = true := (by assumption)
         have hb2 : coordRt (getA zP f i).y = true := (by assumption)
         refine ⟨i + 1, ⟨by omega, fun j hj hj2 => ?_⟩, by omega, ?_⟩
         · by_cases e : j = i
           · rw [e]; exact ⟨hb1, hb2⟩
           · exact g2 j (by omega) hj2
         · repeat' (first | apply And.intro | exact True.intro | exact Lf.mk (by with_reducible rfl) | apply Lf.mk)
           all_goals first | rfl | (rw [Int.natCast_add]; rfl) | trace_state)
      | exact h2 (q1 (by assumption))
      | (have ha := q1 (by assumption)
         have hm : mapOk (smL f) = false := (by assumption)
         rw [fnR_f (by rw [mdR_f ha]; exact hm)]
         done)
      | (have ha := q1 (by assumption)
         have hm : mapOk (smL f) = true := (by assumption)
         rw [fnR_t rfl (by rw [mdR_f ha]; exact hm), mdR_f ha]
         done)
      | trace_state
end Go.Vx
namespace Go.Vx
open Go Go.Proofs
set_option maxRecDepth 100000
set_option linter.unusedSimpArgs false
set_option linter.unusedVariables false

noncomputable def s_spec_mkFind : Sig := ⟨217, [.list .rat, .val .rat], [.val NI], fun ((l : List Rt), (x : Rt), _) => ⟨[], (idxF (fun y => eqRt x y) l, ()), ()⟩⟩
theorem ok_spec_mkFind : GSpec Tryz.prog s_spec_mkFind := by
  refine fn_known tab_ok fol Known.nil (by decide) Tryz.func217 ?_
  rintro ⟨(l : List Rt), (x : Rt), ⟨⟩⟩ ⟨hl, _⟩ _
  have hl : l.length ≤ 9223372036854775807 := hl
  refine ⟨Nat, fun i => ⟨[(9, .sc (.num .i64 i))], [100000, 3], []⟩, fun i => i ≤ l.length ∧ (l.take i).any (fun y => eqRt x y) = false, fun i => l.length - i, ⟨0, ⟨Nat.zero_le _, rfl⟩, ?_⟩, ?_⟩
  · repeat' (first | apply And.intro | exact True.intro | exact Lf.mk (by with_reducible rfl) | apply Lf.mk)
    all_goals rfl
  · rintro i ⟨g1, g2⟩
    repeat' (first | with_reducible apply andAll_cons | with_reducible apply andAll_nil | (with_reducible apply Cf.mk; kernel_rfl) | apply And.intro | intro _ | exact True.intro | apply Lf.mk)
    all_goals (try simp only [Bool.not_eq_true', Bool.not_eq_false', Bool.not_not, decide_eq_true_eq, decide_eq_false_iff_not, beq_iff_eq, bne_iff_ne, beq_eq_false_iff_ne, bne_eq_false_iff_eq, ne_eq, Bool.and_eq_true, Bool.and_eq_false_iff, Bool.or_eq_true, Bool.or_eq_false_iff, Int.toNat_natCast, Nat.zero_add, Int.ofNat_lt, Int.ofNat_le, List.length_cons, List.length_nil, List.drop_zero, List.take_length] at *)
    all_goals first | omega | skip
    · exact (idxF_hit zR (by assumption) g2 (by assumption)).symm
    · refine ⟨i + 1, ⟨by omega, take_all_false zR (by assumption) g2 (by assumption)⟩, by omega, ?_⟩
      repeat' (first | apply And.intro | exact True.intro | exact Lf.mk (by with_reducible rfl) | apply Lf.mk)
      all_goals (rw [Int.natCast_add]; rfl)
    · rename_i h3
      rw [List.take_of_length_le (by omega)] at g2
      exact (idxF_none g2).symm
theorem idx_in' {l : List Rt} {x : Rt} : idxF (fun y => eqRt x y) l < 0 ↔ x ∉ l := by
  have h := @idxF_any Rt (fun y => eqRt x y) l
  have h2 : (l.any fun y => eqRt x y) = true ↔ x ∈ l := by
    rw [List.any_eq_true]
    constructor
    · rintro ⟨y, h1, h2⟩
      have : x = y := of_decide_eq_true h2
      rw [this]; exact h1
    · intro h1
      exact ⟨x, h1, decide_eq_true rfl⟩
  rw [← h2, ← h, decide_eq_true_eq]
  omega
theorem putL_out' {x : Rt} : ∀ {l : List Rt}, x ∉ l → (putL l x).length = l.length + 1
  | [], _ => by rw [putL_nil]; rfl
  | y :: r, h => by
    rw [putL_cons]
    simp only [List.mem_cons, not_or] at h
    split
    · rw [List.length_cons, List.length_cons, putL_out' h.2]
    · rw [if_neg (fun e => h.1 e.symm)]; rfl
noncomputable def mkS (f : List Pt) (b : Bool) : List Rt := if b = true then (smL f).map Pt.x else lpTn f
noncomputable def s_spec_mkStarts : Sig := ⟨216, [.list .pt, .val .bool], [.list 26 .rat], fun ((f : List Pt), (b : Bool), _) => ⟨[2 ≤ f.length, f.length ≤ 1000, rsOk f], (mkS f b, ()), ()⟩⟩
theorem ok_spec_mkStarts : GSpec Tryz.prog s_spec_mkStarts := by
  refine fn_known tab_ok fol (((Known.nil.cons ok_spec_coXs (by kernel_rfl)).cons ok_spec_imSimple (by kernel_rfl)).cons ok_spec_lpTurns (by kernel_rfl)) (by decide) Tryz.func216 ?_
  rintro ⟨(f : List Pt), (b : Bool), ⟨⟩⟩ ⟨hl, _⟩ ⟨l1, l2, h1, _⟩
  have l1 : 2 ≤ f.length := l1
  have l2 : f.length ≤ 1000 := l2
  have h3 : (smL f).length ≤ f.length := by have := smL_len f; omega
  have e1 : b = true → mkS f b = (smL f).map Pt.x := fun h => by unfold mkS; rw [if_pos h]
  have e2 : b = false → mkS f b = lpTn f := fun h => by unfold mkS; rw [if_neg (by rw [h]; decide)]
  repeat' (first | with_reducible apply andAll_cons | with_reducible apply andAll_nil | (with_reducible apply Cf.mk; kernel_rfl) | apply And.intro | intro _ | exact True.intro | apply Lf.mk)
  all_goals (try simp only [List.drop_zero, List.take_length])
  all_goals first | omega | assumption | (exact (e1 (by assumption)).symm) | (exact (e2 (by assumption)).symm) | (exact e1 (by assumption)) | (exact e2 (by assumption)) | trace_state
theorem getA_mem' {α : Type} {d : α} {l : List α} {i : Nat} (h : i < l.length) : getA d l i ∈ l := by
  rw [getA_eq, List.getD_eq_getElem?_getD, List.getElem?_eq_getElem h]
  exact List.getElem_mem _
theorem smK_sub {l : List Pt} : ∀ n, n + 1 ≤ l.length → ∀ p ∈ smK l n, p ∈ l
  | 0, h, p, hp => by
    rw [smK_zero, List.mem_singleton] at hp
    subst hp
    exact getA_mem' (by omega)
  | n + 1, h, p, hp => by
    rw [smK_succ] at hp
    rcases List.mem_append.1 hp with hp | hp
    · exact smK_sub n (by omega) p hp
    · unfold smI at hp
      cases hb : (decide (n + 1 + 1 = l.length) || smT l (n + 1)) <;> rw [hb] at hp
      · cases hp
      · simp only [cond_true, List.mem_singleton] at hp
        subst hp
        exact getA_mem' (by omega)
theorem smL_sub {l : List Pt} (h : 1 ≤ l.length) : ∀ p ∈ smL l, p ∈ l := by
  unfold smL
  exact smK_sub _ (by omega)
theorem mkS_mem {f : List Pt} {b : Bool} (h : 2 ≤ f.length) : ∀ x ∈ mkS f b, ∃ p ∈ f, x = p.x := by
  intro x hx
  unfold mkS at hx
  split at hx
  · obtain ⟨p, hp, rfl⟩ := List.mem_map.1 hx
    exact ⟨p, smL_sub (by omega) p hp, rfl⟩
  · exact lpTn_mem h x hx
theorem mkS_len (f : List Pt) (b : Bool) (h : 2 ≤ f.length) : (mkS f b).length ≤ f.length := by
  unfold mkS
  split
  · rw [List.length_map]; have := smL_len f; omega
  · exact lpTn_len f
/-- all from 0 to 1 -/
def Un (l : List Rt) : Prop := ∀ x ∈ l, unitRt x = true
theorem Un.put {l : List Rt} {x : Rt} (h : Un l) (hx : unitRt x = true) : Un (putL l x) := fun z hz => by
  rcases putL_mem.1 hz with hz | rfl
  · exact h z hz
  · exact hx
theorem Un.at {l : List Rt} (h : Un l) {i : Nat} (hi : i < l.length) : unitRt (getA zR l i) = true := h _ (getA_mem' hi)
theorem Un.gd {l : List Rt} (h : Un l) : ∀ x ∈ l, goodRt x = true := fun x hx => unit_good (h x hx)
theorem mkS_unit {f : List Pt} {b : Bool} (h : mapOk f = true) : Un (mkS f b) := fun x hx => by
  obtain ⟨p, hp, rfl⟩ := mkS_mem (mapOk_iff.1 h).1.1 x hx
  exact coord_unit (ptOk_iff.1 ((mapOk_iff.1 h).2.1 p hp)).1
set_option maxHeartbeats 4000000 in
theorem ex_spec_mkPartition : ∃ (V1 : List Pt → Bool → List Rt) (V2 : List Pt → Bool → Bool), (∀ (f : List Pt) (b : Bool), f.length ≤ 9223372036854775807 → mapOk f = true → f.length ≤ 62 → ((V1 f b).length ≤ 100)) ∧ GSpec Tryz.prog ⟨156, [.list .pt, .val .bool], [.list 26 .rat, .val .bool], fun ((f : List Pt), (b : Bool), _) => ⟨[mapOk f = true, f.length ≤ 62], (V1 f b, V2 f b, ()), ()⟩⟩ := by
  obtain ⟨V, O, h1, h3⟩ := fn_some (P := Tryz.prog) tab_ok fol (((((Known.nil.cons ok_spec_raInt (by kernel_rfl)).cons ok_spec_imPut (by kernel_rfl)).cons ok_spec_mkStarts (by kernel_rfl)).cons ok_spec_imAt (by kernel_rfl)).cons ok_spec_mkFind (by kernel_rfl)) (f := 156) (ks := [.list .pt, .val .bool]) (rs := [.list 26 .rat, .val .bool]) (by decide) Tryz.func156 (pre := fun y => match y with | ((f : List Pt), (b : Bool), _) => [mapOk f = true, f.length ≤ 62]) (Q := fun y R _ => match y, R with | ((f : List Pt), (b : Bool), _), ((v1 : List Rt), (v2 : Bool), _) => v1.length ≤ 100) (by
    rintro ⟨(f : List Pt), (b : Bool), ⟨⟩⟩ hl hpre
    obtain ⟨h1, h2, _⟩ := hpre
    have l1 := (mapOk_iff.1 h1).1.1
    have l3 := (mapOk_iff.1 h1).1.2
    have hrs : rsOk f := rsOk_iff.2 ⟨(mapOk_iff.1 h1).2.1, (mapOk_iff.1 h1).2.2.2.2⟩
    have hSl := mkS_len f b l1
    have hSu := mkS_unit (b := b) h1
    have g0 : ∀ y ∈ [(⟨0, 1⟩ : Rt)], goodRt y = true := fun y hy => by rw [List.mem_singleton.1 hy]; exact good_zero
    have u0 : Un (putL [(⟨0, 1⟩ : Rt)] ⟨1, 1⟩) := Un.put (fun y hy => by rw [List.mem_singleton.1 hy]; exact unit_zero) unit_one
    have n0 := putL_len ⟨1, 1⟩ [(⟨0, 1⟩ : Rt)]
    repeat' (first | with_reducible apply andAll_cons | with_reducible apply andAll_nil | (with_reducible apply Cf.mk; kernel_rfl) | apply And.intro | intro _ | exact True.intro | apply Lf.mk)
    all_goals (try simp only [List.drop_zero, List.take_length])
    all_goals first | exact g0 _ (by assumption) | exact good_one | (with_reducible assumption) | omega | (show List.length _ ≤ 100000; exact Nat.le_of_ble_eq_true rfl) | skip
    refine ⟨List Rt × Nat, fun x => ⟨[(6, .sc (.own 7777777)), (22, .sc (.num .i64 x.2))], [200200, 100000], [(7777777, .row 26 .rat x.1)]⟩, fun x => Un x.1 ∧ x.1.length ≤ 2 + x.2 ∧ x.2 ≤ (mkS f b).length, fun x => (mkS f b).length - x.2, ?_, ?_⟩
    · apply start_go (_, 0)
      · repeat' (first | apply And.intro | exact True.intro | exact Lf.mk (by with_reducible rfl) | apply Lf.mk | with_reducible exact Eq.refl _)
        all_goals first | rfl | trace_state
      · dsimp only
        exact ⟨u0, by simpa using n0, Nat.zero_le _⟩
    · rintro ⟨xs, i⟩ ⟨k1, k2, k3⟩
      dsimp only at k1 k2 k3
      have kg := k1.gd
      repeat' (first | with_reducible apply andAll_cons | with_reducible apply andAll_nil | (with_reducible apply Cf.mk; kernel_rfl) | apply And.intro | intro _ | exact True.intro | apply Lf.mk)
      all_goals (try dsimp only at *)
      all_goals (try simp only [Bool.not_eq_true', Bool.not_eq_false', Bool.not_not, decide_eq_true_eq, decide_eq_false_iff_not, beq_iff_eq, bne_iff_ne, beq_eq_false_iff_ne, bne_eq_false_iff_eq, ne_eq, Bool.and_eq_true, Bool.and_eq_false_iff, Bool.or_eq_true, Bool.or_eq_false_iff, Int.toNat_natCast, Nat.zero_add, Int.ofNat_lt, Int.ofNat_le, List.length_cons, List.length_nil, List.drop_zero, List.take_length] at *)
      all_goals first
        | omega
        | exact kg _ (by assumption)
        | exact unit_good (hSu.at (by assumption))
        | (apply round_go (_, i + 1)
           · repeat' (first | apply And.intro | exact True.intro | exact Lf.mk (by with_reducible rfl) | apply Lf.mk | with_reducible exact Eq.refl _)
             all_goals first | rfl | (rw [Int.natCast_add]; rfl) | trace_state
           · dsimp only; omega
           · dsimp only
             exact ⟨k1.put (hSu.at (by assumption)), Nat.le_trans (putL_len _ _) (by omega), by omega⟩)
        | skip
      refine ⟨List Rt × Bool, fun x => ⟨[(6, .sc (.own 8888888)), (9, .sc (.bool x.2))], [100000], [(8888888, .row 26 .rat x.1)]⟩, fun x => Un x.1 ∧ x.1.length ≤ 14, fun x => 2 * (14 - x.1.length) + x.2.toNat, ?_, ?_⟩
      · apply start_go (_, true)
        · repeat' (first | apply And.intro | exact True.intro | exact Lf.mk (by with_reducible rfl) | apply Lf.mk | with_reducible exact Eq.refl _)
          all_goals first | rfl | trace_state
        · dsimp only
          exact ⟨k1, by omega⟩
      · rintro ⟨ys, m⟩ ⟨j1, j2⟩
        dsimp only at j1 j2
        have jg := j1.gd
        repeat' (first | with_reducible apply andAll_cons | with_reducible apply andAll_nil | (with_reducible apply Cf.mk; kernel_rfl) | apply And.intro | intro _ | exact True.intro | apply Lf.mk)
        all_goals (try dsimp only at *)
        all_goals (try simp only [Bool.not_eq_true', Bool.not_eq_false', Bool.not_not, decide_eq_true_eq, decide_eq_false_iff_not, beq_iff_eq, bne_iff_ne, beq_eq_false_iff_ne, bne_eq_false_iff_eq, ne_eq, Bool.and_eq_true, Bool.and_eq_false_iff, Bool.or_eq_true, Bool.or_eq_false_iff, Int.toNat_natCast, Nat.zero_add, Int.ofNat_lt, Int.ofNat_le, List.length_cons, List.length_nil, List.drop_zero, List.take_length] at *)
        all_goals first
          | (apply some_end (ks := [.list .pt, .val .bool]) (rs := [.list 26 .rat, .val .bool]) (_, _, ()) ()
             · repeat' (first | apply And.intro | exact True.intro | exact Lf.mk (by with_reducible rfl) | apply Lf.mk | with_reducible exact Eq.refl _)
             · dsimp only; first | exact Nat.zero_le _ | omega)
          | (refine ⟨Nat, fun x => ⟨[(36, .sc (.num .i64 x)), (6, .sc (.own 8888888)), (9, .sc (.bool false))], [8888888, 100000], []⟩, fun x => x ≤ ys.length, fun x => ys.length - x, ?_, ?_⟩
             · apply start_go 0
               · repeat' (first | apply And.intro | exact True.intro | exact Lf.mk (by with_reducible rfl) | apply Lf.mk | with_reducible exact Eq.refl _)
                 all_goals first | rfl | trace_state
               · exact Nat.zero_le _
             · rintro j p1
               have p1 : j ≤ ys.length := p1
               have hv := fun hx ho => vR_unit (x := getA zR ys j) h1 hx ho
               repeat' (first | with_reducible apply andAll_cons | with_reducible apply andAll_nil | (with_reducible apply Cf.mk; kernel_rfl) | apply And.intro | intro _ | exact True.intro | apply Lf.mk)
               all_goals (try simp only [List.drop_zero, List.take_length] at *)
               all_goals (try dsimp only at *)
               all_goals (try simp only [Bool.not_eq_true', Bool.not_eq_false', Bool.not_not, decide_eq_true_eq, decide_eq_false_iff_not, beq_iff_eq, bne_iff_ne, beq_eq_false_iff_ne, bne_eq_false_iff_eq, ne_eq, Bool.and_eq_true, Bool.and_eq_false_iff, Bool.or_eq_true, Bool.or_eq_false_iff, Int.toNat_natCast, Nat.zero_add, Int.ofNat_lt, Int.ofNat_le, List.length_cons, List.length_nil, List.drop_zero, List.take_length] at *)
               all_goals (try simp only [rt_eta_] at *)
               all_goals first
                 | omega
                 | assumption
                 | exact j1.at (by assumption)
                 | (apply some_end (ks := [.list .pt, .val .bool]) (rs := [.list 26 .rat, .val .bool]) (_, _, ()) ()
                    · repeat' (first | apply And.intro | exact True.intro | exact Lf.mk (by with_reducible rfl) | apply Lf.mk | with_reducible exact Eq.refl _)
                    · dsimp only; first | exact Nat.zero_le _ | omega)
                 | skip
               all_goals first
                 | ((with_reducible show goodRt _ = true); first | exact jg _ (by assumption) | exact unit_good (hv (j1.at (by assumption)) (by assumption)))
                 | (apply round_go (j + 1)
                    · repeat' (first | apply And.intro | exact True.intro | exact Lf.mk (by with_reducible rfl) | apply Lf.mk | with_reducible exact Eq.refl _)
                      all_goals first | rfl | (rw [Int.natCast_add]; rfl) | omega
                    · show ys.length - (j + 1) < ys.length - j
                      omega
                    · show j + 1 ≤ ys.length
                      omega)
                 | (have hm : m.toNat = 1 := by rw [show m = true by assumption]; rfl
                    have ho := putL_out' (idx_in'.1 (by assumption) : (vR f (getA zR ys j)).1 ∉ ys)
                    apply round_go (putL ys (vR f (getA zR ys j)).1, true)
                    · repeat' (first | apply And.intro | exact True.intro | exact Lf.mk (by with_reducible rfl) | apply Lf.mk | with_reducible exact Eq.refl _)
                      all_goals first | rfl | omega
                    · show 2 * (14 - (putL ys (vR f (getA zR ys j)).1).length) + 1 < 2 * (14 - ys.length) + m.toNat
                      rw [ho]
                      omega
                    · exact ⟨j1.put (hv (j1.at (by assumption)) (by assumption)), by rw [ho]; omega⟩)
                 | (have hm : m.toNat = 1 := by rw [show m = true by assumption]; rfl
                    apply round_go (ys, false)
                    · repeat' (first | apply And.intro | exact True.intro | exact Lf.mk (by with_reducible rfl) | apply Lf.mk | with_reducible exact Eq.refl _)
                      all_goals first | rfl | omega
                    · show 2 * (14 - ys.length) + 0 < 2 * (14 - ys.length) + m.toNat
                      omega
                    · exact ⟨j1, j2⟩)
                 | trace_state))
  exact ⟨fun f b => (V (f, b, ())).1, fun f b => (V (f, b, ())).2.1, fun f b q0 p0 p1 => h1 (f, b, ()) ⟨q0, trivial⟩ ⟨p0, p1, trivial⟩, h3⟩
@[irreducible] noncomputable def mkpV1 : List Pt → Bool → List Rt := Classical.choose ex_spec_mkPartition
@[irreducible] noncomputable def mkpV2 : List Pt → Bool → Bool := Classical.choose (Classical.choose_spec ex_spec_mkPartition)
theorem mkp_spec : (∀ (f : List Pt) (b : Bool), f.length ≤ 9223372036854775807 → mapOk f = true → f.length ≤ 62 → ((mkpV1 f b).length ≤ 100)) ∧ GSpec Tryz.prog ⟨156, [.list .pt, .val .bool], [.list 26 .rat, .val .bool], fun ((f : List Pt), (b : Bool), _) => ⟨[mapOk f = true, f.length ≤ 62], (mkpV1 f b, mkpV2 f b, ()), ()⟩⟩ := by
  unfold mkpV1 mkpV2
  exact (Classical.choose_spec (Classical.choose_spec ex_spec_mkPartition))
theorem mkp_ok {f : List Pt} {b : Bool} (q0 : f.length ≤ 9223372036854775807) (p0 : mapOk f = true) (p1 : f.length ≤ 62) : (mkpV1 f b).length ≤ 100 := mkp_spec.1 f b q0 p0 p1
noncomputable def s_spec_mkPartition : Sig := ⟨156, [.list .pt, .val .bool], [.list 26 .rat, .val .bool], fun ((f : List Pt), (b : Bool), _) => ⟨[mapOk f = true, f.length ≤ 62], (mkpV1 f b, mkpV2 f b, ()), ()⟩⟩
theorem ok_spec_mkPartition : GSpec Tryz.prog s_spec_mkPartition := mkp_spec.2
end Go.Vx
