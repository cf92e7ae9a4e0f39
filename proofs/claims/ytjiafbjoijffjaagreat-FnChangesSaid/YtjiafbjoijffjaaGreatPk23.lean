/- Compositions, powers and return maps: the program's functions and the reference's. -/
import Derived.Test.YtjiafbjoijffjaaGreatPk15
import Derived.Test.YtjiafbjoijffjaaGreatPk22
import Derived.Test.YtjiafbjoijffjaaGreatPk20
namespace Go.Vx
open Go Go.Proofs
set_option maxRecDepth 100000
set_option linter.unusedSimpArgs false
set_option linter.unusedVariables false

noncomputable def s_impl_slopes_ : Sig := ⟨198, [.list .pt], [.list 26 .rat], fun ((f : List Pt), _) => ⟨[2 ≤ f.length, f.length ≤ 1000, rsOk f], (slL f (f.length - 1), ()), ()⟩⟩
theorem ok_impl_slopes_ : GSpec Tryz.prog s_impl_slopes_ := by
  refine fn_known tab_ok fol (Known.nil.cons ok_calc_slope (by kernel_rfl)) (by decide) Tryz.func198 ?_
  rintro ⟨(f : List Pt), ⟨⟩⟩ ⟨hl, _⟩ ⟨l1, l2, h1, _⟩
  have l1 : 2 ≤ f.length := l1
  have l2 : f.length ≤ 1000 := l2
  refine ⟨Nat, fun i => ⟨[(5, .sc (.num .i64 ((i : Int) + 1))), (4, .sc (.own 7777777))], [100000], [(7777777, .row 26 .rat (slL f i)), (3, .box cT [.bool false])]⟩, fun i => i + 1 ≤ f.length, fun i => f.length - i, ⟨0, by omega, ?_⟩, ?_⟩
  · repeat' (first | apply And.intro | exact True.intro | exact Lf.mk (by with_reducible rfl) | apply Lf.mk)
    all_goals first | rfl | simp
  · intro i g1
    have hm := slL_length f i
    repeat' (first | with_reducible apply andAll_cons | with_reducible apply andAll_nil | (with_reducible apply Cf.mk; kernel_rfl) | apply And.intro | intro _ | exact True.intro | apply Lf.mk)
    all_goals simp only [hm] at *
    all_goals (try simp only [Bool.not_eq_true', Bool.not_eq_false', Bool.not_not, decide_eq_true_eq, decide_eq_false_iff_not, beq_iff_eq, bne_iff_ne, beq_eq_false_iff_ne, bne_eq_false_iff_eq, ne_eq, Bool.and_eq_true, Bool.and_eq_false_iff, Bool.or_eq_true, Bool.or_eq_false_iff, Int.toNat_natCast, Nat.zero_add, Int.ofNat_lt, Int.ofNat_le, List.length_cons, List.length_nil, List.drop_zero, List.take_length] at *)
    all_goals (try simp only [show ((i : Int) + 1 - 1).toNat = i by omega, show ((i : Int) + 1).toNat = i + 1 by omega] at *)
    all_goals first
      | omega
      | exact rs_pt h1 (by omega)
      | exact rs_lt h1 (by omega)
      | (show (_ + 1) * 16 ≤ 140737488355328; omega)
      | (rw [show i = f.length - 1 by omega]; done)
      | skip
    refine ⟨i + 1, by omega, by omega, ?_⟩
    repeat' (first | apply And.intro | exact True.intro | exact Lf.mk (by with_reducible rfl) | apply Lf.mk)
    all_goals first | rfl | (rw [Int.natCast_add]; rfl) | exact slL_succ f i
noncomputable def s_impl_made_1 : Sig := ⟨227, [.val .pt], [.val .bool], fun ((p : Pt), _) => ⟨[], (bigP p, ()), ()⟩⟩
theorem ok_impl_made_1 : GSpec Tryz.prog s_impl_made_1 := by
  refine fn_known tab_ok fol Known.nil (by decide) Tryz.func227 ?_
  rintro ⟨⟨⟨(n : Int), (d : Int)⟩, ⟨(m : Int), (e : Int)⟩⟩, ⟨⟩⟩ - -
  repeat' (first | with_reducible apply andAll_cons | with_reducible apply andAll_nil | (with_reducible apply Cf.mk; kernel_rfl) | apply And.intro | intro _ | exact True.intro | apply Lf.mk)
  all_goals (try simp only [Bool.not_eq_true', Bool.not_eq_false', Bool.not_not, decide_eq_true_eq, decide_eq_false_iff_not, beq_iff_eq, bne_iff_ne, beq_eq_false_iff_ne, bne_eq_false_iff_eq, ne_eq, Bool.and_eq_true, Bool.and_eq_false_iff, Bool.or_eq_true, Bool.or_eq_false_iff, Int.toNat_natCast, Nat.zero_add, Int.ofNat_lt, Int.ofNat_le, List.length_cons, List.length_nil, List.drop_zero, List.take_length] at *)
  all_goals first | rfl | (simp [bigP, *]; done) | trace_state
theorem slL_get {f : List Pt} {n i : Nat} (hi : i < n) : getA zR (slL f n) i = slR (getA zP f i) (getA zP f (i + 1)) := by
  unfold slL
  rw [getA_eq]; simp [List.getD, hi]
noncomputable def s_impl_simple : Sig := ⟨228, [.list .pt], [.list 107 .pt], fun ((f : List Pt), _) => ⟨[2 ≤ f.length, f.length ≤ 1000, rsOk f], (smL f, ()), ()⟩⟩
theorem ok_impl_simple : GSpec Tryz.prog s_impl_simple := by
  refine fn_known tab_ok fol (Known.nil.cons ok_impl_slopes_ (by kernel_rfl)) (by decide) Tryz.func228 ?_
  rintro ⟨(f : List Pt), ⟨⟩⟩ ⟨hl, _⟩ ⟨l1, l2, h1, _⟩
  have l1 : 2 ≤ f.length := l1
  have l2 : f.length ≤ 1000 := l2
  have l3 := slL_length f (f.length - 1)
  repeat' (first | with_reducible apply andAll_cons | with_reducible apply andAll_nil | (with_reducible apply Cf.mk; kernel_rfl) | apply And.intro | intro _ | exact True.intro | apply Lf.mk)
  all_goals (try simp only [Bool.not_eq_true', Bool.not_eq_false', Bool.not_not, decide_eq_true_eq, decide_eq_false_iff_not, beq_iff_eq, bne_iff_ne, beq_eq_false_iff_ne, bne_eq_false_iff_eq, ne_eq, Bool.and_eq_true, Bool.and_eq_false_iff, Bool.or_eq_true, Bool.or_eq_false_iff, Int.toNat_natCast, Nat.zero_add, Int.ofNat_lt, Int.ofNat_le, List.length_cons, List.length_nil, List.drop_zero, List.take_length] at *)
  all_goals first | omega | exact h1 | skip
  refine ⟨Nat, fun i => ⟨[(5, .sc (.num .i64 ((i : Int) + 1))), (4, .sc (.own 7777777))], [100000, 200070], [(7777777, .row 107 .pt (smK f i))]⟩, fun i => i + 2 ≤ f.length, fun i => f.length - i, ⟨0, l1, ?_⟩, ?_⟩
  · have e := smK_zero f
    repeat' (first | apply And.intro | exact True.intro | exact Lf.mk (by with_reducible rfl) | apply Lf.mk)
    all_goals first | rfl | exact e.symm | trace_state
  · rintro i g1
    have g1 : i + 2 ≤ f.length := g1
    have q1 := smK_len f i
    have q2 := smK_succ f i
    have e1 : ((i : Int) + 1 - 1).toNat = i := by omega
    have e2 : ((i : Int) + 1).toNat = i + 1 := by omega
    have e3 : ((f.length : Int) - 1).toNat = f.length - 1 := by omega
    repeat' (first | with_reducible apply andAll_cons | with_reducible apply andAll_nil | (with_reducible apply Cf.mk; kernel_rfl) | apply And.intro | intro _ | exact True.intro | apply Lf.mk)
    all_goals (try simp only [e1, e2, e3] at *)
    all_goals (try simp only [Bool.not_eq_true', Bool.not_eq_false', Bool.not_not, decide_eq_true_eq, decide_eq_false_iff_not, beq_iff_eq, bne_iff_ne, beq_eq_false_iff_ne, bne_eq_false_iff_eq, ne_eq, Bool.and_eq_true, Bool.and_eq_false_iff, Bool.or_eq_true, Bool.or_eq_false_iff, Int.toNat_natCast, Nat.zero_add, Int.ofNat_lt, Int.ofNat_le, List.length_cons, List.length_nil, List.drop_zero, List.take_length] at *)
    all_goals first | omega | (show (_ + 1) * 32 ≤ 140737488355328; omega) | skip
    · rename_i h5 h6
      have h7 : eqRt (getA zR (slL f (f.length - 1)) i) (getA zR (slL f (f.length - 1)) (i + 1)) = false := h6
      rw [slL_get (by omega), slL_get (by omega)] at h7
      rw [smI_t (.inr (by rw [smT_succ, h7]; rfl))] at q2
      refine ⟨i + 1, by omega, by omega, ?_⟩
      repeat' (first | apply And.intro | exact True.intro | exact Lf.mk (by with_reducible rfl) | apply Lf.mk)
      all_goals first | rfl | exact q2.symm | (rw [Int.natCast_add]; rfl) | trace_state
    · rename_i h5 h6
      have h7 : eqRt (getA zR (slL f (f.length - 1)) i) (getA zR (slL f (f.length - 1)) (i + 1)) = true := h6
      rw [slL_get (by omega), slL_get (by omega)] at h7
      rw [smI_f (by omega) (by rw [smT_succ, h7]; rfl), List.append_nil] at q2
      refine ⟨i + 1, by omega, by omega, ?_⟩
      repeat' (first | apply And.intro | exact True.intro | exact Lf.mk (by with_reducible rfl) | apply Lf.mk)
      all_goals first | rfl | exact q2.symm | (rw [Int.natCast_add]; rfl) | trace_state
    · rw [smI_t (.inl (by omega))] at q2
      unfold smL
      rw [show f.length - 1 = i + 1 by omega]
      exact q2.symm
noncomputable def s_spec_imSimple : Sig := ⟨210, [.list .pt], [.list 107 .pt], fun ((f : List Pt), _) => ⟨[2 ≤ f.length, f.length ≤ 1000, rsOk f], (smL f, ()), ()⟩⟩
theorem ok_spec_imSimple : GSpec Tryz.prog s_spec_imSimple := by
  refine fn_known tab_ok fol (Known.nil.cons ok_spec_imSlope (by kernel_rfl)) (by decide) Tryz.func210 ?_
  rintro ⟨(f : List Pt), ⟨⟩⟩ ⟨hl, _⟩ ⟨l1, l2, h1, _⟩
  have l1 : 2 ≤ f.length := l1
  have l2 : f.length ≤ 1000 := l2
  repeat' (first | with_reducible apply andAll_cons | with_reducible apply andAll_nil | (with_reducible apply Cf.mk; kernel_rfl) | apply And.intro | intro _ | exact True.intro | apply Lf.mk)
  all_goals first | omega | skip
  refine ⟨Nat, fun i => ⟨[(4, .sc (.num .i64 ((i : Int) + 1))), (3, .sc (.own 7777777))], [100000], [(7777777, .row 107 .pt (smK f i))]⟩, fun i => i + 1 ≤ f.length, fun i => f.length - i, ⟨0, by omega, ?_⟩, ?_⟩
  · have e := smK_zero f
    repeat' (first | apply And.intro | exact True.intro | exact Lf.mk (by with_reducible rfl) | apply Lf.mk)
    all_goals first | rfl | exact e.symm | trace_state
  · rintro i g1
    have g1 : i + 1 ≤ f.length := g1
    have q1 := smK_len f i
    have q2 := smK_succ f i
    have e1 : ((i : Int) + 1 - 1).toNat = i := by omega
    have e2 : ((i : Int) + 1).toNat = i + 1 := by omega
    have e3 : ((i : Int) + 1 + 1).toNat = i + 1 + 1 := by omega
    repeat' (first | with_reducible apply andAll_cons | with_reducible apply andAll_nil | (with_reducible apply Cf.mk; kernel_rfl) | apply And.intro | intro _ | exact True.intro | apply Lf.mk)
    all_goals (try simp only [e1, e2, e3] at *)
    all_goals (try simp only [Bool.not_eq_true', Bool.not_eq_false', Bool.not_not, decide_eq_true_eq, decide_eq_false_iff_not, beq_iff_eq, bne_iff_ne, beq_eq_false_iff_ne, bne_eq_false_iff_eq, ne_eq, Bool.and_eq_true, Bool.and_eq_false_iff, Bool.or_eq_true, Bool.or_eq_false_iff, Int.toNat_natCast, Nat.zero_add, Int.ofNat_lt, Int.ofNat_le, List.length_cons, List.length_nil, List.drop_zero, List.take_length] at *)
    all_goals first | omega | exact rs_pt h1 (by omega) | exact rs_lt h1 (by omega) | (show (_ + 1) * 32 ≤ 140737488355328; omega) | skip
    · rename_i h4 h5 h6
      rw [beq_eq_false_iff_ne.2 h5, cond_false] at h6
      have h7 : smT f (i + 1) = true := h6
      rw [smI_t (.inr h7)] at q2
      refine ⟨i + 1, by omega, by omega, ?_⟩
      repeat' (first | apply And.intro | exact True.intro | exact Lf.mk (by with_reducible rfl) | apply Lf.mk)
      all_goals first | rfl | exact q2.symm | (rw [Int.natCast_add]; rfl) | trace_state
    · rename_i h4 h5 h6
      rw [beq_eq_false_iff_ne.2 h5, cond_false] at h6
      have h7 : smT f (i + 1) = false := h6
      rw [smI_f (by omega) h7, List.append_nil] at q2
      refine ⟨i + 1, by omega, by omega, ?_⟩
      repeat' (first | apply And.intro | exact True.intro | exact Lf.mk (by with_reducible rfl) | apply Lf.mk)
      all_goals first | rfl | exact q2.symm | (rw [Int.natCast_add]; rfl) | trace_state
    · rename_i h4 h5
      rw [smI_t (.inl (by omega))] at q2
      refine ⟨i + 1, by omega, by omega, ?_⟩
      repeat' (first | apply And.intro | exact True.intro | exact Lf.mk (by with_reducible rfl) | apply Lf.mk)
      all_goals first | rfl | exact q2.symm | (rw [Int.natCast_add]; rfl) | trace_state
    · exact absurd ‹true = false› Bool.noConfusion
    · unfold smL
      rw [show f.length - 1 = i by omega]
noncomputable def s_impl_made : Sig := ⟨180, [.list .pt], [.list 107 .pt, .val .bool], fun ((f : List Pt), _) => ⟨[2 ≤ f.length, f.length ≤ 1000, f.any bigP = false → rsOk f], ((mdR f).1, (mdR f).2, ()), ()⟩⟩
theorem ok_impl_made : GSpec Tryz.prog s_impl_made := by
  refine fn_known tab_ok fol ((((Known.nil.cons ok_lib_ContainsFuncPoint (by kernel_rfl)).cons ok_impl_made_1 (by kernel_rfl)).cons ok_impl_simple (by kernel_rfl)).cons ok_impl_isMap (by kernel_rfl)) (by decide) Tryz.func180 ?_
  rintro ⟨(f : List Pt), ⟨⟩⟩ ⟨hl, _⟩ ⟨l1, l2, h1, _⟩
  have l1 : 2 ≤ f.length := l1
  have l2 : f.length ≤ 1000 := l2
  have h1 : f.any bigP = false → rsOk f := h1
  repeat' (first | with_reducible apply andAll_cons | with_reducible apply andAll_nil | (with_reducible apply Cf.mk; kernel_rfl) | apply And.intro | intro _ | exact True.intro | apply Lf.mk)
  all_goals (try simp only [List.drop_zero, List.take_length] at *)
  all_goals (try simp only [Bool.not_eq_true', Bool.not_eq_false', Bool.not_not, decide_eq_true_eq, decide_eq_false_iff_not, beq_iff_eq, bne_iff_ne, beq_eq_false_iff_ne, bne_eq_false_iff_eq, ne_eq, Bool.and_eq_true, Bool.and_eq_false_iff, Bool.or_eq_true, Bool.or_eq_false_iff, Int.toNat_natCast, Nat.zero_add, Int.ofNat_lt, Int.ofNat_le, List.length_cons, List.length_nil, List.drop_zero, List.take_length] at *)
  all_goals first | omega | exact h1 (by assumption) | rfl | (rw [mdR_t (by assumption)]; done) | (rw [mdR_f (by assumption)]; done) | trivial | skip
  all_goals trace_state
noncomputable def s_calc_finish : Sig := ⟨105, [.cell cT .bool, .list .pt], [.list 107 .pt, .val .bool], fun ((c : Bool), (f : List Pt), _) => ⟨[2 ≤ f.length, f.length ≤ 1000, c = false → f.any bigP = false → rsOk f], ((fnR c f).1, (fnR c f).2, ()), (c, ())⟩⟩
theorem ok_calc_finish : GSpec Tryz.prog s_calc_finish := by
  refine fn_known tab_ok fol (Known.nil.cons ok_impl_made (by kernel_rfl)) (by decide) Tryz.func105 ?_
  rintro ⟨(c : Bool), (f : List Pt), ⟨⟩⟩ ⟨hl, _⟩ ⟨l1, l2, h1, _⟩
  have l1 : 2 ≤ f.length := l1
  have l2 : f.length ≤ 1000 := l2
  repeat' (first | with_reducible apply andAll_cons | with_reducible apply andAll_nil | (with_reducible apply Cf.mk; kernel_rfl) | apply And.intro | intro _ | exact True.intro | apply Lf.mk)
  all_goals (try simp only [Bool.not_eq_true', Bool.not_eq_false', Bool.not_not, decide_eq_true_eq, decide_eq_false_iff_not, beq_iff_eq, bne_iff_ne, beq_eq_false_iff_ne, bne_eq_false_iff_eq, ne_eq, Bool.and_eq_true, Bool.and_eq_false_iff, Bool.or_eq_true, Bool.or_eq_false_iff, Int.toNat_natCast, Nat.zero_add, Int.ofNat_lt, Int.ofNat_le, List.length_cons, List.length_nil, List.drop_zero, List.take_length] at *)
  all_goals first | omega | skip
  all_goals first
    | exact h1 (by assumption) (by assumption)
    | (rw [show c = true by assumption, fnR_c]; done)
    | (rw [fnR_f (by assumption)]; done)
    | (rw [fnR_t (by assumption) (by assumption)]; done)
    | trace_state
noncomputable def s_impl_ConjugateMap : Sig := ⟨61, [.list .pt, .list .pt], [.list 107 .pt, .val .bool], fun ((f : List Pt), (h : List Pt), _) => ⟨[], ((cmRes f h).1, (cmRes f h).2, ()), ()⟩⟩
theorem ok_impl_ConjugateMap : GSpec Tryz.prog s_impl_ConjugateMap := by
  refine fn_known tab_ok fol (((((Known.nil.cons ok_impl_isMap (by kernel_rfl)).cons ok_impl_isChange (by kernel_rfl)).cons ok_calc_bends (by kernel_rfl)).cons ok_calc_value (by kernel_rfl)).cons ok_calc_finish (by kernel_rfl)) (by decide) Tryz.func61 ?_
  rintro ⟨(f : List Pt), (h : List Pt), ⟨⟩⟩ ⟨hl, hl2, _⟩ -
  have c2 : chOk h = true → mapOk h = true := fun hc => (chOk_iff.1 hc).1
  repeat' (first | with_reducible apply andAll_cons | with_reducible apply andAll_nil | (with_reducible apply Cf.mk; kernel_rfl) | apply And.intro | intro _ | exact True.intro | apply Lf.mk)
  all_goals (try simp only [Bool.not_eq_true', Bool.not_eq_false', Bool.not_not, decide_eq_true_eq, decide_eq_false_iff_not, beq_iff_eq, bne_iff_ne, beq_eq_false_iff_ne, bne_eq_false_iff_eq, ne_eq, Bool.and_eq_true, Bool.and_eq_false_iff, Bool.or_eq_true, Bool.or_eq_false_iff, Int.toNat_natCast, Nat.zero_add, Int.ofNat_lt, Int.ofNat_le, List.length_cons, List.length_nil, List.drop_zero, List.take_length] at *)
  all_goals first | (rw [cmRes_f1 (by assumption)]; done) | (rw [cmRes_f2 (by assumption)]; done) | assumption | exact c2 (by assumption) | skip
  rename_i m1 m3
  have m4 := c2 m3
  have q0 := bdO_len m1 m4
  have q00 := bd_two m1 m4
  have q00 : 2 ≤ (bdO f h).length := q00
  refine ⟨Nat, fun i => ⟨[(22, .sc (.num .i64 i)), (7, .sc (.own 7777777))], [200200, 100000, 100001], [(6, .box cT [.bool (!cmG f h i)]), (7777777, .row 107 .pt (cmL f h i))]⟩, fun i => i ≤ (bdO f h).length, fun i => (bdO f h).length - i, ⟨0, Nat.zero_le _, ?_⟩, ?_⟩
  · have e1 := cmL_zero f h
    have e2 := cmG_zero f h
    repeat' (first | apply And.intro | exact True.intro | exact Lf.mk (by with_reducible rfl) | apply Lf.mk)
    all_goals first | rfl | exact e1.symm | (rw [e1]; rfl) | (rw [e2]; rfl) | (rw [e2, Bool.false_or]; done) | trace_state
  · rintro i g1
    have q1 : i < (bdO f h).length → unitRt (getA zR (bdO f h) i) = true := fun hi => bd_unitA m1 m4 (getA_mem _ hi)
    have q2 : i < (bdO f h).length → unitRt (vO f (getA zR (bdO f h) i)) = true := fun hi => vO_unit m1 (q1 hi)
    have q3 := cmL_len f h i
    have q4 := @cm_flag f h i
    have q5 := cmL_succ f h i
    repeat' (first | with_reducible apply andAll_cons | with_reducible apply andAll_nil | (with_reducible apply Cf.mk; kernel_rfl) | apply And.intro | intro _ | exact True.intro | apply Lf.mk)
    all_goals (try simp only [Bool.not_eq_true', Bool.not_eq_false', Bool.not_not, decide_eq_true_eq, decide_eq_false_iff_not, beq_iff_eq, bne_iff_ne, beq_eq_false_iff_ne, bne_eq_false_iff_eq, ne_eq, Bool.and_eq_true, Bool.and_eq_false_iff, Bool.or_eq_true, Bool.or_eq_false_iff, Int.toNat_natCast, Nat.zero_add, Int.ofNat_lt, Int.ofNat_le, List.length_cons, List.length_nil, List.drop_zero, List.take_length] at *)
    all_goals first | omega | exact m1 | exact m4 | exact q1 (by assumption) | exact q2 (by assumption) | (show (_ + 1) * 32 ≤ 140737488355328; omega) | skip
    · rename_i h5
      refine ⟨i + 1, Nat.succ_le_of_lt h5, Nat.sub_succ_lt_self _ _ h5, ?_⟩
      repeat' (first | apply And.intro | exact True.intro | exact Lf.mk (by with_reducible rfl) | apply Lf.mk)
      all_goals first | rfl | exact q4 | exact q5.symm | (rw [Int.natCast_add]; rfl) | trace_state
    all_goals (have e : i = cmN f h := Nat.le_antisymm g1 (Nat.not_lt.1 (by assumption)))
    all_goals subst e
    all_goals first
      | exact cm_rs' m1 m3 (by assumption) (by assumption)
      | (rw [fn_eq m1 m3, cmRes_t m1 m3]; done)
      | trace_state
noncomputable def s_spec_cjMap : Sig := ⟨146, [.list .pt, .list .pt], [.list 107 .pt, .val .bool], fun ((f : List Pt), (h : List Pt), _) => ⟨[mapOk f = true, chOk h = true], ((cmR f h).1, (cmR f h).2, ()), ()⟩⟩
theorem ok_spec_cjMap : GSpec Tryz.prog s_spec_cjMap := by
  refine fn_known tab_ok fol ((((((Known.nil.cons ok_spec_cjBreaks (by kernel_rfl)).cons ok_spec_imAt (by kernel_rfl)).cons ok_spec_cjTwice (by kernel_rfl)).cons ok_spec_imCoord (by kernel_rfl)).cons ok_spec_imSimple (by kernel_rfl)).cons ok_spec_imGood (by kernel_rfl)) (by decide) Tryz.func146 ?_
  rintro ⟨(f : List Pt), (h : List Pt), ⟨⟩⟩ ⟨hl, hl2, _⟩ ⟨m1, m3, _⟩
  have m4 := (chOk_iff.1 m3).1
  repeat' (first | with_reducible apply andAll_cons | with_reducible apply andAll_nil | (with_reducible apply Cf.mk; kernel_rfl) | apply And.intro | intro _ | exact True.intro | apply Lf.mk)
  all_goals (try simp only [Bool.not_eq_true', Bool.not_eq_false', Bool.not_not, decide_eq_true_eq, decide_eq_false_iff_not, beq_iff_eq, bne_iff_ne, beq_eq_false_iff_ne, bne_eq_false_iff_eq, ne_eq, Bool.and_eq_true, Bool.and_eq_false_iff, Bool.or_eq_true, Bool.or_eq_false_iff, Int.toNat_natCast, Nat.zero_add, Int.ofNat_lt, Int.ofNat_le, List.length_cons, List.length_nil, List.drop_zero, List.take_length] at *)
  all_goals first | exact m1 | exact m4 | (rw [cmR_f (cmK_f0 (by rw [← bdR_2]; assumption))]; done) | skip
  rename_i h0
  have h2 : bdG f h = true := by rw [← bdR_2]; exact h0
  have h3 : (bdR f h).1 = bdO f h := by rw [bdR_t h2]
  have q0 := bdO_len m1 m4
  have q00 := bd_two m1 m4
  have q00 : 2 ≤ (bdO f h).length := q00
  have q01 : (bdR f h).1.length = (bdO f h).length := by rw [h3]
  have hu : ∀ x ∈ (bdR f h).1, unitRt x = true := fun x hx => by rw [h3] at hx; exact bd_unitA m1 m4 hx
  refine ⟨Nat, fun i => ⟨[(25, .sc (.num .i64 i)), (8, .sc (.own 7777777))], [200180, 100000, 100001], [(7777777, .row 107 .pt (cmL f h i))]⟩, fun i => i ≤ (bdR f h).1.length ∧ cmK f h i = true, fun i => (bdR f h).1.length - i, ⟨0, ⟨Nat.zero_le _, cmK_zero h2⟩, ?_⟩, ?_⟩
  · have e1 := cmL_zero f h
    repeat' (first | apply And.intro | exact True.intro | exact Lf.mk (by with_reducible rfl) | apply Lf.mk)
    all_goals first | rfl | exact e1.symm | (rw [e1]; rfl) | trace_state
  · rintro i ⟨g1, g2⟩
    have q1 : i < (bdR f h).1.length → unitRt (getA zR (bdR f h).1 i) = true := fun hi => hu _ (getA_mem _ hi)
    have q2 : unitRt (getA zR (bdR f h).1 i) = true → (vR h (getA zR (bdR f h).1 i)).2 = true → goodRt (vR h (getA zR (bdR f h).1 i)).1 = true := fun a b => vR_good m4 a b
    have q3 := cmL_len f h i
    repeat' (first | with_reducible apply andAll_cons | with_reducible apply andAll_nil | (with_reducible apply Cf.mk; kernel_rfl) | apply And.intro | intro _ | exact True.intro | apply Lf.mk)
    all_goals (try simp only [Bool.not_eq_true', Bool.not_eq_false', Bool.not_not, decide_eq_true_eq, decide_eq_false_iff_not, beq_iff_eq, bne_iff_ne, beq_eq_false_iff_ne, bne_eq_false_iff_eq, ne_eq, Bool.and_eq_true, Bool.and_eq_false_iff, Bool.or_eq_true, Bool.or_eq_false_iff, Int.toNat_natCast, Nat.zero_add, Int.ofNat_lt, Int.ofNat_le, List.length_cons, List.length_nil, List.drop_zero, List.take_length] at *)
    all_goals first | omega | exact m1 | exact m4 | exact q1 (by assumption) | (show (_ + 1) * 32 ≤ 140737488355328; omega) | skip
    all_goals (try have hlt : i < cmN f h := Nat.lt_of_lt_of_eq (show i < (bdR f h).1.length by assumption) q01)
    all_goals first
      | (have hb : (vR h (getA zR (bdR f h).1 i)).2 = false := by assumption
         rw [h3] at hb
         rw [cmR_f (cmK_f (i := i) (n := cmN f h) hlt (fun hh => by have hh2 := hh.1; rw [hb] at hh2; cases hh2))]
         done)
      | (have hb : (twR f h (getA zR (bdR f h).1 i)).2 = false := by assumption
         rw [h3] at hb
         rw [cmR_f (cmK_f (i := i) (n := cmN f h) hlt (fun hh => by have hh2 := hh.2.1; rw [hb] at hh2; cases hh2))]
         done)
      | (have hb : coordRt (vR h (getA zR (bdR f h).1 i)).1 = false := by assumption
         rw [h3] at hb
         rw [cmR_f (cmK_f (i := i) (n := cmN f h) hlt (fun hh => by have hh2 := hh.2.2.1; rw [hb] at hh2; cases hh2))]
         done)
      | (have hb : coordRt (twR f h (getA zR (bdR f h).1 i)).1 = false := by assumption
         rw [h3] at hb
         rw [cmR_f (cmK_f (i := i) (n := cmN f h) hlt (fun hh => by have hh2 := hh.2.2.2; rw [hb] at hh2; cases hh2))]
         done)
      | skip
    · have a1 : (vR h (getA zR (bdR f h).1 i)).2 = true := by assumption
      have a2 : (twR f h (getA zR (bdR f h).1 i)).2 = true := by assumption
      have a3 : coordRt (vR h (getA zR (bdR f h).1 i)).1 = true := by assumption
      have a4 : coordRt (twR f h (getA zR (bdR f h).1 i)).1 = true := by assumption
      have e0 : (getA zR (bdR f h).1 i) = getA zR (bdO f h) i := by rw [h3]
      have b1 := a1
      have b2 := a2
      rw [e0] at b1 b2 a3 a4
      have e := cmL_next b1 b2
      rw [← e0] at e
      refine ⟨i + 1, ⟨Nat.succ_le_of_lt (Nat.lt_of_lt_of_eq hlt q01.symm), cmK_next g2 b1 b2 a3 a4⟩, Nat.sub_succ_lt_self _ _ (Nat.lt_of_lt_of_eq hlt q01.symm), ?_⟩
      repeat' (first | apply And.intro | exact True.intro | exact Lf.mk (by with_reducible rfl) | apply Lf.mk)
      all_goals first | rfl | exact e | (rw [Int.natCast_add]; rfl) | trace_state
    all_goals (have e : i = cmN f h := Nat.le_antisymm (Nat.le_trans g1 (Nat.le_of_eq q01)) (Nat.le_trans (Nat.le_of_eq q01.symm) (Nat.not_lt.1 (by assumption))))
    all_goals subst e
    all_goals (have q5 := cmL_len f h (cmN f h))
    all_goals first
      | (rw [q5]; omega)
      | exact cm_rs m1 m3 g2
      | (rw [cmR_t g2, cmF_t (by assumption)]; done)
      | (rw [cmR_t g2, cmF_f (by assumption)]; done)
      | trace_state
noncomputable def s_spec_ConjugateMap : Sig := ⟨62, [.list .pt, .list .pt], [.list 107 .pt, .val .bool], fun ((f : List Pt), (h : List Pt), _) => ⟨[], ((cmRes f h).1, (cmRes f h).2, ()), ()⟩⟩
theorem ok_spec_ConjugateMap : GSpec Tryz.prog s_spec_ConjugateMap := by
  refine fn_known tab_ok fol (((Known.nil.cons ok_spec_imGood (by kernel_rfl)).cons ok_spec_cjGood (by kernel_rfl)).cons ok_spec_cjMap (by kernel_rfl)) (by decide) Tryz.func62 ?_
  rintro ⟨(f : List Pt), (h : List Pt), ⟨⟩⟩ - -
  repeat' (first | with_reducible apply andAll_cons | with_reducible apply andAll_nil | (with_reducible apply Cf.mk; kernel_rfl) | apply And.intro | intro _ | exact True.intro | apply Lf.mk)
  all_goals (try simp only [Bool.not_eq_true', Bool.not_eq_false', Bool.not_not, decide_eq_true_eq, decide_eq_false_iff_not, beq_iff_eq, bne_iff_ne, beq_eq_false_iff_ne, bne_eq_false_iff_eq, ne_eq, Bool.and_eq_true, Bool.and_eq_false_iff, Bool.or_eq_true, Bool.or_eq_false_iff, Int.toNat_natCast, Nat.zero_add, Int.ofNat_lt, Int.ofNat_le, List.length_cons, List.length_nil, List.drop_zero, List.take_length] at *)
  all_goals first | (rw [cmRes_f1 (by assumption)]; done) | (rw [cmRes_f2 (by assumption)]; done) | assumption | (rw [cmRes_t (by assumption) (by assumption)]; done) | trace_state
end Go.Vx
namespace Go.Vx
open Go Go.Proofs
set_option maxRecDepth 100000
set_option linter.unusedSimpArgs false
set_option linter.unusedVariables false

abbrev lpT : Nat := 24
noncomputable def s_impl_composed_1 : Sig := ⟨222, [.val .rat, .cell cT .bool, .lcell lpT .pt, .lcell lpT .pt], [.val .rat], fun ((x : Rt), (c : Bool), (f : List Pt), (g : List Pt), _) => ⟨[mapOk f = true, mapOk g = true, unitRt x = true], (twO g f x, ()), ((c || !(vR g x).2) || !(vR f (vO g x)).2, ())⟩⟩
theorem ok_impl_composed_1 : GSpec Tryz.prog s_impl_composed_1 := by
  refine fn_known tab_ok fol (Known.nil.cons ok_calc_value (by kernel_rfl)) (by decide) Tryz.func222 ?_
  rintro ⟨⟨(n : Int), (d : Int)⟩, (c : Bool), (f : List Pt), (g : List Pt), ⟨⟩⟩ - ⟨h1, h2, h3, _⟩
  have h4 := vO_unit h2 h3
  repeat' (first | with_reducible apply andAll_cons | with_reducible apply andAll_nil | (with_reducible apply Cf.mk; kernel_rfl) | apply And.intro | intro _ | exact True.intro | apply Lf.mk)
  all_goals (try simp only [List.drop_zero, List.take_length] at *)
  all_goals first | assumption | rfl | (unfold twO; rfl) | trace_state
noncomputable def s_impl_pointsAt : Sig := ⟨221, [.own rT .rat, .cell cT .bool, .lcell lpT .pt, .lcell lpT .pt], [.list 107 .pt], fun ((xs : List Rt), (c : Bool), (f : List Pt), (g : List Pt), _) => ⟨[mapOk f = true, mapOk g = true, ∀ x ∈ xs, unitRt x = true, xs.length ≤ 1000], (ptL g f (putsL [] xs) (putsL [] xs).length, ()), (c || !ptG g f (putsL [] xs) (putsL [] xs).length, ())⟩⟩
theorem ok_impl_pointsAt : GSpec Tryz.prog s_impl_pointsAt := by
  refine fn_known tab_ok fol ((Known.nil.cons ok_impl_rising (by kernel_rfl)).cons ok_impl_composed_1 (by kernel_rfl)) (by decide) Tryz.func221 ?_
  rintro ⟨(xs : List Rt), (c : Bool), (f : List Pt), (g : List Pt), ⟨⟩⟩ - ⟨h1, h2, h3, h4, _⟩
  have h3 : ∀ x ∈ xs, unitRt x = true := h3
  have h4 : xs.length ≤ 1000 := h4
  have hl := putsL_len xs []
  simp only [List.length_nil] at hl
  have hu : ∀ x ∈ putsL [] xs, unitRt x = true := fun x hx => by
    rcases putsL_mem.1 hx with h | h
    · cases h
    · exact h3 x h
  repeat' (first | with_reducible apply andAll_cons | with_reducible apply andAll_nil | (with_reducible apply Cf.mk; kernel_rfl) | apply And.intro | intro _ | exact True.intro | apply Lf.mk)
  all_goals (try simp only [Bool.not_eq_true', Bool.not_eq_false', Bool.not_not, decide_eq_true_eq, decide_eq_false_iff_not, beq_iff_eq, bne_iff_ne, beq_eq_false_iff_ne, bne_eq_false_iff_eq, ne_eq, Bool.and_eq_true, Bool.and_eq_false_iff, Bool.or_eq_true, Bool.or_eq_false_iff, Int.toNat_natCast, Nat.zero_add, Int.ofNat_lt, Int.ofNat_le, List.length_cons, List.length_nil, List.drop_zero, List.take_length] at *)
  all_goals first | exact fun x hx => unit_good (h3 x hx) | exact unit_good (h3 _ (by assumption)) | omega | skip
  refine ⟨Nat, fun i => ⟨[(11, .sc (.num .i64 i)), (5, .sc (.own 7777777))], [200090, 100002, 150002, 100003, 150003], [(7777777, .row 107 .pt (ptL g f (putsL [] xs) i)), (100001, .box cT [.bool (c || !ptG g f (putsL [] xs) i)])]⟩, fun i => i ≤ (putsL [] xs).length, fun i => (putsL [] xs).length - i, ⟨0, Nat.zero_le _, ?_⟩, ?_⟩
  · have e1 := ptL_zero g f (putsL [] xs)
    have e2 := ptG_zero g f (putsL [] xs)
    repeat' (first | apply And.intro | exact True.intro | exact Lf.mk (by with_reducible rfl) | apply Lf.mk)
    all_goals first | rfl | exact e1.symm | (rw [e1]; rfl) | (rw [e2]; cases c <;> rfl) | trace_state
  · rintro i g1
    have q1 : i < (putsL [] xs).length → unitRt (getA zR (putsL [] xs) i) = true := fun hi => hu _ (getA_mem _ hi)
    have q2 := ptL_len g f (putsL [] xs) i
    have q3 := ptL_succ g f (putsL [] xs) i
    have q4 := pt_flag (c := c) (g := g) (f := f) (z := putsL [] xs) (i := i)
    repeat' (first | with_reducible apply andAll_cons | with_reducible apply andAll_nil | (with_reducible apply Cf.mk; kernel_rfl) | apply And.intro | intro _ | exact True.intro | apply Lf.mk)
    all_goals (try simp only [Bool.not_eq_true', Bool.not_eq_false', Bool.not_not, decide_eq_true_eq, decide_eq_false_iff_not, beq_iff_eq, bne_iff_ne, beq_eq_false_iff_ne, bne_eq_false_iff_eq, ne_eq, Bool.and_eq_true, Bool.and_eq_false_iff, Bool.or_eq_true, Bool.or_eq_false_iff, Int.toNat_natCast, Nat.zero_add, Int.ofNat_lt, Int.ofNat_le, List.length_cons, List.length_nil, List.drop_zero, List.take_length] at *)
    all_goals first | omega | exact h1 | exact h2 | exact q1 (by assumption) | (show (_ + 1) * 32 ≤ 140737488355328; omega) | skip
    all_goals first
      | (refine ⟨i + 1, by omega, by omega, ?_⟩
         repeat' (first | apply And.intro | exact True.intro | exact Lf.mk (by with_reducible rfl) | apply Lf.mk)
         all_goals first | rfl | exact q3.symm | exact q4 | (rw [Int.natCast_add]; rfl) | trace_state)
      | (rw [show i = (putsL [] xs).length by omega]; done)
      | trace_state
noncomputable def s_impl_composed : Sig := ⟨172, [.list .pt, .list .pt], [.list 107 .pt, .val .bool], fun ((f : List Pt), (g : List Pt), _) => ⟨[mapOk f = true, mapOk g = true], ((cpR g f).1, (cpR g f).2, ()), ()⟩⟩
theorem ok_impl_composed : GSpec Tryz.prog s_impl_composed := by
  refine fn_known tab_ok fol ((((Known.nil.cons ok_impl_xsOf (by kernel_rfl)).cons ok_calc_before (by kernel_rfl)).cons ok_impl_pointsAt (by kernel_rfl)).cons ok_calc_finish (by kernel_rfl)) (by decide) Tryz.func172 ?_
  rintro ⟨(f : List Pt), (g : List Pt), ⟨⟩⟩ ⟨hl, hl2, _⟩ ⟨h1, h2, _⟩
  have l1 := (mapOk_iff.1 h1).1
  have l2 := (mapOk_iff.1 h2).1
  repeat' (first | with_reducible apply andAll_cons | with_reducible apply andAll_nil | (with_reducible apply Cf.mk; kernel_rfl) | apply And.intro | intro _ | exact True.intro | apply Lf.mk)
  all_goals first | (simp only [List.drop_zero, List.take_length]; omega) | skip
  refine ⟨Nat, fun i => ⟨[(14, .sc (.num .i64 i)), (7, .sc (.own 7777777))], [100000, 100001, 2, 3], [(6, .box cT [.bool (!bdG_ g f i)]), (7777777, .row 26 .rat (cpRaw g f i))]⟩, fun i => i ≤ f.length, fun i => f.length - i, ⟨0, Nat.zero_le _, ?_⟩, ?_⟩
  · have e1 := bdG_zero g f
    have e2 := cpRaw_zero g f
    repeat' (first | apply And.intro | exact True.intro | exact Lf.mk (by with_reducible rfl) | apply Lf.mk)
    all_goals first | rfl | exact e2.symm | (rw [e1]; rfl) | (simp only [List.drop_zero, List.take_length]; exact e2.symm) | trace_state
  · rintro i g1
    have q1 := cpRaw_len (f := f) l2.2 i
    have q2 := @bfO_len g (getA zP f i).x l2.2
    have q3 := cpRaw_succ g f i
    have q4 : (!bdG_ g f i || !bfG g (getA zP f i).x) = !bdG_ g f (i + 1) := by have := bg_step false (f := g) (h := f) (i := i); simpa using this
    have q5 : i < f.length → goodRt (getA zP f i).x = true := fun hi => pt_gd h1 hi
    repeat' (first | with_reducible apply andAll_cons | with_reducible apply andAll_nil | (with_reducible apply Cf.mk; kernel_rfl) | apply And.intro | intro _ | exact True.intro | apply Lf.mk)
    all_goals (try simp only [List.drop_zero, List.take_length] at *)
    all_goals (try simp only [Bool.not_eq_true', Bool.not_eq_false', Bool.not_not, decide_eq_true_eq, decide_eq_false_iff_not, beq_iff_eq, bne_iff_ne, beq_eq_false_iff_ne, bne_eq_false_iff_eq, ne_eq, Bool.and_eq_true, Bool.and_eq_false_iff, Bool.or_eq_true, Bool.or_eq_false_iff, Int.toNat_natCast, Nat.zero_add, Int.ofNat_lt, Int.ofNat_le, List.length_cons, List.length_nil, List.drop_zero, List.take_length] at *)
    all_goals first | omega | exact h1 | exact h2 | exact q5 (by assumption) | (show (_ + List.length (bfO g (getA zP f i).x)) * 16 ≤ 140737488355328; omega) | skip
    · refine ⟨i + 1, by omega, by omega, ?_⟩
      repeat' (first | apply And.intro | exact True.intro | exact Lf.mk (by with_reducible rfl) | apply Lf.mk)
      all_goals first | rfl | exact q3.symm | exact q4 | (rw [Int.natCast_add]; rfl) | trace_state
    all_goals (have e : i = f.length := by omega)
    all_goals (subst e)
    all_goals (have ez : putsL [] (cpRaw g f f.length) = cpO g f := by unfold cpO; rfl)
    all_goals (have eb : bdG_ g f f.length = bdG g f := by unfold bdG; rfl)
    all_goals (try rw [ez])
    all_goals first
      | (have hm : _ ∈ cpRaw g f f.length := (by assumption)
         exact cp_unit h2 h1 (by unfold cpO; exact putsL_mem.2 (.inr hm)))
      | (rw [ptL_len]; exact cp_two h2)
      | (rw [ptL_len]; exact Nat.le_trans (cpO_len h2 h1) (by decide))
      | (have hz : (ptL g f (putsL [] (cpRaw g f f.length)) (putsL [] (cpRaw g f f.length)).length).any bigP = false := (by assumption)
         rw [ez] at hz
         exact cp_rs h2 h1 hz)
      | (unfold cpR; rw [Bool.not_and, eb]; done)
      | trace_state
noncomputable def s_impl_identityMap : Sig := ⟨171, [], [.list 107 .pt], fun _ => ⟨[], (idM, ()), ()⟩⟩
theorem ok_impl_identityMap : GSpec Tryz.prog s_impl_identityMap := by
  refine fn_known tab_ok fol ((Known.nil.cons ok_impl_zero (by kernel_rfl)).cons ok_impl_oneRat (by kernel_rfl)) (by decide) Tryz.func171 ?_
  rintro ⟨⟩ - -
  repeat' (first | with_reducible apply andAll_cons | with_reducible apply andAll_nil | (with_reducible apply Cf.mk; kernel_rfl) | apply And.intro | intro _ | exact True.intro | apply Lf.mk)
  all_goals rfl
noncomputable def s_impl_PowerOfMap : Sig := ⟨100, [.list .pt, .val NI], [.list 107 .pt, .val .bool], fun ((f : List Pt), (n : Int), _) => ⟨[], ((pmRes f n).1, (pmRes f n).2, ()), ()⟩⟩
theorem ok_impl_PowerOfMap : GSpec Tryz.prog s_impl_PowerOfMap := by
  refine fn_known tab_ok fol ((((Known.nil.cons ok_impl_isMap (by kernel_rfl)).cons ok_impl_within (by kernel_rfl)).cons ok_impl_identityMap (by kernel_rfl)).cons ok_impl_composed (by kernel_rfl)) (by decide) Tryz.func100 ?_
  rintro ⟨(f : List Pt), (n : Int), ⟨⟩⟩ ⟨hl, _⟩ -
  repeat' (first | with_reducible apply andAll_cons | with_reducible apply andAll_nil | (with_reducible apply Cf.mk; kernel_rfl) | apply And.intro | intro _ | exact True.intro | apply Lf.mk)
  all_goals (try simp only [List.drop_zero, List.take_length] at *)
  all_goals (try simp only [Bool.not_eq_true', Bool.not_eq_false', Bool.not_not, decide_eq_true_eq, decide_eq_false_iff_not, beq_iff_eq, bne_iff_ne, beq_eq_false_iff_ne, bne_eq_false_iff_eq, ne_eq, Bool.and_eq_true, Bool.and_eq_false_iff, Bool.or_eq_true, Bool.or_eq_false_iff, Int.toNat_natCast, Nat.zero_add, Int.ofNat_lt, Int.ofNat_le, List.length_cons, List.length_nil, List.drop_zero, List.take_length] at *)
  all_goals first | (rw [pm_f1 (by assumption)]; done) | (rw [pm_f2 (by assumption)]; done) | skip
  rename_i hn hm
  have hn' := hn
  unfold inB at hn'
  simp only [Bool.and_eq_true, decide_eq_true_eq] at hn'
  refine ⟨Nat, fun i => ⟨[(18, .sc (.num .i64 i)), (6, .sc (.own 7777777))], [100000], [(7777777, .row 107 .pt (pwR f i).1)]⟩, fun i => i ≤ n.toNat ∧ (pwR f i).2 = true, fun i => n.toNat - i, ⟨0, ⟨Nat.zero_le _, by rw [pwR_zero]⟩, ?_⟩, ?_⟩
  · have e1 := pwR_zero f
    repeat' (first | apply And.intro | exact True.intro | exact Lf.mk (by with_reducible rfl) | apply Lf.mk)
    all_goals first | rfl | (rw [e1]; done) | trace_state
  · rintro i ⟨g1, g2⟩
    have q1 := pw_map hm g2
    have q2 := pwR_t g2
    repeat' (first | with_reducible apply andAll_cons | with_reducible apply andAll_nil | (with_reducible apply Cf.mk; kernel_rfl) | apply And.intro | intro _ | exact True.intro | apply Lf.mk)
    all_goals (try simp only [List.drop_zero, List.take_length] at *)
    all_goals (try simp only [Bool.not_eq_true', Bool.not_eq_false', Bool.not_not, decide_eq_true_eq, decide_eq_false_iff_not, beq_iff_eq, bne_iff_ne, beq_eq_false_iff_ne, bne_eq_false_iff_eq, ne_eq, Bool.and_eq_true, Bool.and_eq_false_iff, Bool.or_eq_true, Bool.or_eq_false_iff, Int.toNat_natCast, Nat.zero_add, Int.ofNat_lt, Int.ofNat_le, List.length_cons, List.length_nil, List.drop_zero, List.take_length] at *)
    all_goals first | omega | exact hm | exact q1 | skip
    all_goals first
      | (have hb : (cpR (pwR f i).1 f).2 = false := (by assumption)
         have := pw_stay (f := f) (k := i + 1) (by rw [q2]; exact hb) (n := n.toNat) (by omega)
         rw [pm_t hm hn, this]
         done)
      | (have hb : (cpR (pwR f i).1 f).2 = true := (by assumption)
         refine ⟨i + 1, ⟨by omega, by rw [q2]; exact hb⟩, by omega, ?_⟩
         repeat' (first | apply And.intro | exact True.intro | exact Lf.mk (by with_reducible rfl) | apply Lf.mk)
         all_goals first | rfl | (rw [q2]; done) | (rw [Int.natCast_add]; rfl) | trace_state)
      | (rw [pm_t hm hn, show n.toNat = i by omega]; first | done | exact g2.symm)
      | trace_state

noncomputable def s_spec_coXs : Sig := ⟨93, [.list .pt], [.list 26 .rat], fun ((f : List Pt), _) => ⟨[f.length ≤ 1000000000], (f.map Pt.x, ()), ()⟩⟩
theorem ok_spec_coXs : GSpec Tryz.prog s_spec_coXs := by
  refine fn_known tab_ok fol Known.nil (by decide) Tryz.func93 ?_
  rintro ⟨(f : List Pt), ⟨⟩⟩ ⟨hl, _⟩ ⟨h1, _⟩
  have h1 : f.length ≤ 1000000000 := h1
  refine ⟨Nat, fun i => ⟨[(8, .sc (.num .i64 i)), (3, .sc (.own 7777777))], [100000], [(7777777, .row 26 .rat ((f.take i).map Pt.x))]⟩, fun i => i ≤ f.length, fun i => f.length - i, ⟨0, Nat.zero_le _, ?_⟩, ?_⟩
  · repeat' (first | apply And.intro | exact True.intro | exact Lf.mk (by with_reducible rfl) | apply Lf.mk)
    all_goals first | rfl | trace_state
  · rintro i g1
    have q2 : ((f.take i).map Pt.x).length = i := by rw [List.length_map, List.length_take]; omega
    repeat' (first | with_reducible apply andAll_cons | with_reducible apply andAll_nil | (with_reducible apply Cf.mk; kernel_rfl) | apply And.intro | intro _ | exact True.intro | apply Lf.mk)
    all_goals (try simp only [Bool.not_eq_true', Bool.not_eq_false', Bool.not_not, decide_eq_true_eq, decide_eq_false_iff_not, beq_iff_eq, bne_iff_ne, beq_eq_false_iff_ne, bne_eq_false_iff_eq, ne_eq, Bool.and_eq_true, Bool.and_eq_false_iff, Bool.or_eq_true, Bool.or_eq_false_iff, Int.toNat_natCast, Nat.zero_add, Int.ofNat_lt, Int.ofNat_le, List.length_cons, List.length_nil, List.drop_zero, List.take_length] at *)
    all_goals first | omega | (show (_ + 1) * 16 ≤ 140737488355328; omega) | skip
    · have e : (f.take i).map Pt.x ++ [(getA zP f i).x] = (f.take (i + 1)).map Pt.x := by rw [mapx_next (by omega)]
      refine ⟨i + 1, by omega, by omega, ?_⟩
      repeat' (first | apply And.intro | exact True.intro | exact Lf.mk (by with_reducible rfl) | apply Lf.mk)
      all_goals first | rfl | exact e | (rw [Int.natCast_add]; rfl) | trace_state
    · rw [List.take_of_length_le (by omega)]
noncomputable def s_spec_coSimple : Sig := ⟨170, [.list .pt], [.list 107 .pt], fun ((f : List Pt), _) => ⟨[2 ≤ f.length, f.length ≤ 1000, rsOk f], (smL f, ()), ()⟩⟩
theorem ok_spec_coSimple : GSpec Tryz.prog s_spec_coSimple := by
  refine fn_known tab_ok fol (Known.nil.cons ok_spec_imSlope (by kernel_rfl)) (by decide) Tryz.func170 ?_
  rintro ⟨(f : List Pt), ⟨⟩⟩ ⟨hl, _⟩ ⟨l1, l2, h1, _⟩
  have l1 : 2 ≤ f.length := l1
  have l2 : f.length ≤ 1000 := l2
  repeat' (first | with_reducible apply andAll_cons | with_reducible apply andAll_nil | (with_reducible apply Cf.mk; kernel_rfl) | apply And.intro | intro _ | exact True.intro | apply Lf.mk)
  all_goals first | omega | skip
  refine ⟨Nat, fun i => ⟨[(4, .sc (.num .i64 ((i : Int) + 1))), (3, .sc (.own 7777777))], [100000], [(7777777, .row 107 .pt (smK f i))]⟩, fun i => i + 1 ≤ f.length, fun i => f.length - i, ⟨0, by omega, ?_⟩, ?_⟩
  · have e := smK_zero f
    repeat' (first | apply And.intro | exact True.intro | exact Lf.mk (by with_reducible rfl) | apply Lf.mk)
    all_goals first | rfl | exact e.symm | trace_state
  · rintro i g1
    have g1 : i + 1 ≤ f.length := g1
    have q1 := smK_len f i
    have q2 := smK_succ f i
    have e1 : ((i : Int) + 1 - 1).toNat = i := by omega
    have e2 : ((i : Int) + 1).toNat = i + 1 := by omega
    have e3 : ((i : Int) + 1 + 1).toNat = i + 1 + 1 := by omega
    repeat' (first | with_reducible apply andAll_cons | with_reducible apply andAll_nil | (with_reducible apply Cf.mk; kernel_rfl) | apply And.intro | intro _ | exact True.intro | apply Lf.mk)
    all_goals (try simp only [e1, e2, e3] at *)
    all_goals (try simp only [Bool.not_eq_true', Bool.not_eq_false', Bool.not_not, decide_eq_true_eq, decide_eq_false_iff_not, beq_iff_eq, bne_iff_ne, beq_eq_false_iff_ne, bne_eq_false_iff_eq, ne_eq, Bool.and_eq_true, Bool.and_eq_false_iff, Bool.or_eq_true, Bool.or_eq_false_iff, Int.toNat_natCast, Nat.zero_add, Int.ofNat_lt, Int.ofNat_le, List.length_cons, List.length_nil, List.drop_zero, List.take_length] at *)
    all_goals first | omega | exact rs_pt h1 (by omega) | exact rs_lt h1 (by omega) | (show (_ + 1) * 32 ≤ 140737488355328; omega) | skip
    · rename_i h4 h5 h6
      rw [beq_eq_false_iff_ne.2 h5, cond_false] at h6
      have h7 : smT f (i + 1) = true := h6
      rw [smI_t (.inr h7)] at q2
      refine ⟨i + 1, by omega, by omega, ?_⟩
      repeat' (first | apply And.intro | exact True.intro | exact Lf.mk (by with_reducible rfl) | apply Lf.mk)
      all_goals first | rfl | exact q2.symm | (rw [Int.natCast_add]; rfl) | trace_state
    · rename_i h4 h5 h6
      rw [beq_eq_false_iff_ne.2 h5, cond_false] at h6
      have h7 : smT f (i + 1) = false := h6
      rw [smI_f (by omega) h7, List.append_nil] at q2
      refine ⟨i + 1, by omega, by omega, ?_⟩
      repeat' (first | apply And.intro | exact True.intro | exact Lf.mk (by with_reducible rfl) | apply Lf.mk)
      all_goals first | rfl | exact q2.symm | (rw [Int.natCast_add]; rfl) | trace_state
    · rename_i h4 h5
      rw [smI_t (.inl (by omega))] at q2
      refine ⟨i + 1, by omega, by omega, ?_⟩
      repeat' (first | apply And.intro | exact True.intro | exact Lf.mk (by with_reducible rfl) | apply Lf.mk)
      all_goals first | rfl | exact q2.symm | (rw [Int.natCast_add]; rfl) | trace_state
    · exact absurd ‹true = false› Bool.noConfusion
    · unfold smL
      rw [show f.length - 1 = i by omega]
noncomputable def s_spec_coIf : Sig := ⟨97, [.list .pt], [.list 107 .pt, .val .bool], fun ((f : List Pt), _) => ⟨[2 ≤ f.length, f.length ≤ 1000, ∀ p ∈ f, unitRt p.x = true ∧ unitRt p.y = true, f.any bigP = false → rsOk f], ((fnR false f).1, (fnR false f).2, ()), ()⟩⟩
theorem big_some {f : List Pt} {i : Nat} (hu : ∀ p ∈ f, unitRt p.x = true ∧ unitRt p.y = true) (hi : i < f.length) (hb : coordRt (getA zP f i).x = false ∨ coordRt (getA zP f i).y = false) : fnR false f = ([], false) := by
  have hm := getA_mem zP hi
  have h1 := pt_big (hu _ hm).1 (hu _ hm).2
  have h2 : ptOk (getA zP f i) = false := by
    unfold ptOk
    rcases hb with h | h <;> rw [h]
    · rfl
    · rw [Bool.and_false]
  rw [h2] at h1
  have h3 : bigP (getA zP f i) = true := by simpa using h1.symm
  have h4 : f.any bigP = true := List.any_eq_true.2 ⟨_, hm, h3⟩
  exact fnR_f (by rw [mdR_t h4])
theorem big_none {f : List Pt} {n : Nat} (hu : ∀ p ∈ f, unitRt p.x = true ∧ unitRt p.y = true) (hn : f.length ≤ n) (h : ∀ i, i < n → i < f.length → coordRt (getA zP f i).x = true ∧ coordRt (getA zP f i).y = true) : f.any bigP = false := by
  rw [List.any_eq_false]
  intro p hp
  obtain ⟨k, hk, rfl⟩ := List.getElem_of_mem hp
  have h2 := h k (by omega) hk
  rw [getA_lt _ _ _ hk] at h2
  have h1 := pt_big (hu _ hp).1 (hu _ hp).2
  rw [ptOk_iff.2 h2] at h1
  intro hb
  rw [hb] at h1
  cases h1
theorem ok_spec_coIf : GSpec Tryz.prog s_spec_coIf := by
  refine fn_known tab_ok fol (((Known.nil.cons ok_spec_imCoord (by kernel_rfl)).cons ok_spec_coSimple (by kernel_rfl)).cons ok_spec_imGood (by kernel_rfl)) (by decide) Tryz.func97 ?_
  rintro ⟨(f : List Pt), ⟨⟩⟩ ⟨hl, _⟩ ⟨l1, l2, h1, h2, _⟩
  have l1 : 2 ≤ f.length := l1
  have l2 : f.length ≤ 1000 := l2
  have h1 : ∀ p ∈ f, unitRt p.x = true ∧ unitRt p.y = true := h1
  have h2 : f.any bigP = false → rsOk f := h2
  refine ⟨Nat, fun i => ⟨[(9, .sc (.num .i64 i))], [100000], []⟩, fun i => i ≤ f.length ∧ ∀ j, j < i → j < f.length → coordRt (getA zP f j).x = true ∧ coordRt (getA zP f j).y = true, fun i => f.length - i, ⟨0, ⟨Nat.zero_le _, fun j hj => by omega⟩, ?_⟩, ?_⟩
  · repeat' (first | apply And.intro | exact True.intro | exact Lf.mk (by with_reducible rfl) | apply Lf.mk)
    all_goals first | rfl | trace_state
  · rintro i ⟨g1, g2⟩
    have q1 : ¬ i < f.length → f.any bigP = false := fun hi => big_none h1 (by omega) g2
    repeat' (first | with_reducible apply andAll_cons | with_reducible apply andAll_nil | (with_reducible apply Cf.mk; kernel_rfl) | apply And.intro | intro _ | exact True.intro | apply Lf.mk)
    all_goals (try simp only [Bool.not_eq_true', Bool.not_eq_false', Bool.not_not, decide_eq_true_eq, decide_eq_false_iff_not, beq_iff_eq, bne_iff_ne, beq_eq_false_iff_ne, bne_eq_false_iff_eq, ne_eq, Bool.and_eq_true, Bool.and_eq_false_iff, Bool.or_eq_true, Bool.or_eq_false_iff, Int.toNat_natCast, Nat.zero_add, Int.ofNat_lt, Int.ofNat_le, List.length_cons, List.length_nil, List.drop_zero, List.take_length] at *)
    all_goals first | omega | (rw [List.drop_zero, List.take_length]; omega) | skip
    all_goals first
      | (have hb : coordRt (getA zP f i).x = false := (by assumption)
         rw [big_some h1 (show i < f.length by assumption) (.inl hb)]
         done)
      | (have hb : coordRt (getA zP f i).y = false := (by assumption)
         rw [big_some h1 (show i < f.length by assumption) (.inr hb)]
         done)
      | (have hb1 : coordRt (getA zP f i).x = true := (by assumption)
         have hb2 : coordRt (getA zP f i).y = true := (by assumption)
         refine ⟨i + 1, ⟨by omega, fun j hj hj2 => ?_⟩, by omega, ?_⟩
         · by_cases e : j = i
           · rw [e]; exact ⟨hb1, hb2⟩
           · exact g2 j (by omega) hj2
         · repeat' (first | apply And.intro | exact True.intro | exact Lf.mk (by with_reducible rfl) | apply Lf.mk)
           all_goals first | rfl | (rw [Int.natCast_add]; rfl) | trace_state)
      | exact h2 (q1 (by assumption))
      | (have ha := q1 (by assumption)
         have hm : mapOk (smL f) = false := (by assumption)
         rw [fnR_f (by rw [mdR_f ha]; exact hm)]
         done)
      | (have ha := q1 (by assumption)
         have hm : mapOk (smL f) = true := (by assumption)
         rw [fnR_t rfl (by rw [mdR_f ha]; exact hm), mdR_f ha]
         done)
      | trace_state
end Go.Vx
