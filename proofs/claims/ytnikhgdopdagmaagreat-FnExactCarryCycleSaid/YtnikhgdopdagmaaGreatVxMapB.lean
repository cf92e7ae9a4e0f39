/- Maps: slopes, pieces and values. -/
import Derived.Test.YtnikhgdopdagmaaGreatVxMapA
namespace Go.Vx
open Go Go.Proofs
set_option maxRecDepth 100000
set_option linter.unusedSimpArgs false
set_option linter.unusedVariables false

noncomputable def s_calc_slope : Sig := ⟨57, [.cell cT .bool, .val .pt, .val .pt], [.val .rat], fun ((c : Bool), (p : Pt), (q : Pt), _) => ⟨[ptOk p = true, ptOk q = true, ltR p.x q.x], (slR p q, ()), (c, ())⟩⟩
theorem ok_calc_slope : GSpec Tryz.prog s_calc_slope := by
  refine fn_known tab_ok fol ((Known.nil.cons ok_calc_sub (by kernel_rfl)).cons ok_calc_div (by kernel_rfl)) (by decide) Tryz.func57 ?_
  rintro ⟨(c : Bool), ⟨⟨(n : Int), (d : Int)⟩, ⟨(m : Int), (e : Int)⟩⟩, ⟨⟨(n' : Int), (d' : Int)⟩, ⟨(m' : Int), (e' : Int)⟩⟩, ⟨⟩⟩ hl ⟨h1, h2, h3, _⟩
  obtain ⟨s1, s2, s3⟩ := slR_ok h1 h2 h3
  have hp := ptOk_iff.1 h1
  have hq := ptOk_iff.1 h2
  obtain ⟨a1, a2, a3, a4⟩ := sub_coord hq.2 hp.2
  obtain ⟨b1, b2, b3, b4⟩ := sub_coord hq.1 hp.1
  have e1 := opR_t a1
  have e2 := opR_t b1
  have e3 := opR_t s1
  have g1 := coord_good hp.1
  have g2 := coord_good hp.2
  have g3 := coord_good hq.1
  have g4 := coord_good hq.2
  dsimp only at *
  repeat' (first | with_reducible apply andAll_cons | with_reducible apply andAll_nil | (with_reducible apply Cf.mk; kernel_rfl) | apply And.intro | intro _ | exact True.intro | apply Lf.mk)
  all_goals (try simp only [e1, e2, e3, a1, b1, s1, Bool.not_true, Bool.or_false] at *)
  all_goals first | assumption | rfl
noncomputable def s_spec_imSlope : Sig := ⟨51, [.val .pt, .val .pt], [.val .rat], fun ((p : Pt), (q : Pt), _) => ⟨[ptOk p = true, ptOk q = true, ltR p.x q.x], (slR p q, ()), ()⟩⟩
theorem ok_spec_imSlope : GSpec Tryz.prog s_spec_imSlope := by
  refine fn_known tab_ok fol ((Known.nil.cons ok_spec_raSub (by kernel_rfl)).cons ok_spec_raDiv (by kernel_rfl)) (by decide) Tryz.func51 ?_
  rintro ⟨⟨⟨(n : Int), (d : Int)⟩, ⟨(m : Int), (e : Int)⟩⟩, ⟨⟨(n' : Int), (d' : Int)⟩, ⟨(m' : Int), (e' : Int)⟩⟩, ⟨⟩⟩ hl ⟨h1, h2, h3, _⟩
  have hp := ptOk_iff.1 h1
  have hq := ptOk_iff.1 h2
  obtain ⟨a1, a2, a3, a4⟩ := sub_coord hq.2 hp.2
  obtain ⟨b1, b2, b3, b4⟩ := sub_coord hq.1 hp.1
  have g1 := ok_good (coord_good hp.1)
  have g2 := ok_good (coord_good hp.2)
  have g3 := ok_good (coord_good hq.1)
  have g4 := ok_good (coord_good hq.2)
  have g5 := ok_good a2
  have g6 := ok_good b2
  dsimp only at *
  repeat' (first | with_reducible apply andAll_cons | with_reducible apply andAll_nil | (with_reducible apply Cf.mk; kernel_rfl) | apply And.intro | intro _ | exact True.intro | apply Lf.mk)
  all_goals first | assumption | rfl
noncomputable def s_calc_line : Sig := ⟨56, [.cell cT .bool, .val .pt, .val .rat, .val .rat], [.val .rat], fun ((c : Bool), (p : Pt), (s : Rt), (x : Rt), _) => ⟨[ptOk p = true, goodRt s = true, goodRt x = true], (lineO p s x, ()), (c || !(lineR p s x).2, ())⟩⟩
theorem ok_calc_line : GSpec Tryz.prog s_calc_line := by
  refine fn_known tab_ok fol (((Known.nil.cons ok_calc_sub (by kernel_rfl)).cons ok_calc_mul (by kernel_rfl)).cons ok_calc_add (by kernel_rfl)) (by decide) Tryz.func56 ?_
  rintro ⟨(c : Bool), ⟨⟨(n : Int), (d : Int)⟩, ⟨(m : Int), (e : Int)⟩⟩, ⟨(n' : Int), (d' : Int)⟩, ⟨(m' : Int), (e' : Int)⟩, ⟨⟩⟩ hl ⟨h1, h2, h3, _⟩
  have hp := ptOk_iff.1 h1
  have g1 := coord_good hp.1
  have g2 := coord_good hp.2
  have hf := line_flag c ⟨⟨n, d⟩, ⟨m, e⟩⟩ ⟨n', d'⟩ ⟨m', e'⟩
  dsimp only at *
  repeat' (first | with_reducible apply andAll_cons | with_reducible apply andAll_nil | (with_reducible apply Cf.mk; kernel_rfl) | apply And.intro | intro _ | exact True.intro | apply Lf.mk)
  all_goals first | assumption | exact opR_good | exact hf | rfl
noncomputable def s_impl_slopes : Sig := ⟨76, [.list .pt], [.list 42 .rat], fun ((f : List Pt), _) => ⟨[mapOk f = true], (slL f (f.length - 1), ()), ()⟩⟩
theorem ok_impl_slopes : GSpec Tryz.prog s_impl_slopes := by
  refine fn_known tab_ok fol (Known.nil.cons ok_calc_slope (by kernel_rfl)) (by decide) Tryz.func76 ?_
  rintro ⟨(f : List Pt), ⟨⟩⟩ ⟨hl, _⟩ ⟨h1, _⟩
  have h2 := mapOk_iff.1 h1
  refine ⟨Nat, fun i => ⟨[(5, .sc (.num .i64 ((i : Int) + 1))), (4, .sc (.own 7777777))], [100000], [(7777777, .row 42 .rat (slL f i)), (3, .box cT [.bool false])]⟩, fun i => i + 1 ≤ f.length, fun i => f.length - i, ⟨0, by omega, ?_⟩, ?_⟩
  · repeat' (first | apply And.intro | exact True.intro | exact Lf.mk (by with_reducible rfl) | apply Lf.mk)
    all_goals first | rfl | simp
  · intro i g1
    have hm := slL_length f i
    repeat' (first | with_reducible apply andAll_cons | with_reducible apply andAll_nil | (with_reducible apply Cf.mk; kernel_rfl) | apply And.intro | intro _ | exact True.intro | apply Lf.mk)
    all_goals simp only [hm] at *
    all_goals (try simp only [Bool.not_eq_true', Bool.not_eq_false', Bool.not_not, decide_eq_true_eq, decide_eq_false_iff_not, beq_iff_eq, bne_iff_ne, beq_eq_false_iff_ne, bne_eq_false_iff_eq, ne_eq, Bool.and_eq_true, Bool.and_eq_false_iff, Bool.or_eq_true, Bool.or_eq_false_iff, Int.toNat_natCast, Nat.zero_add, Int.ofNat_lt, Int.ofNat_le, List.length_cons, List.length_nil, List.drop_zero, List.take_length] at *)
    all_goals (try simp only [show ((i : Int) + 1 - 1).toNat = i by omega, show ((i : Int) + 1).toNat = i + 1 by omega] at *)
    all_goals first
      | omega
      | exact map_pt h1 (by omega)
      | exact h2.2.2.2.2 i (by omega)
      | (show (_ + 1) * 16 ≤ 140737488355328; omega)
      | (rw [show i = f.length - 1 by omega]; done)
      | skip
    refine ⟨i + 1, by omega, by omega, ?_⟩
    repeat' (first | apply And.intro | exact True.intro | exact Lf.mk (by with_reducible rfl) | apply Lf.mk)
    all_goals first | rfl | (rw [Int.natCast_add]; rfl) | exact slL_succ f i
noncomputable def s_impl_pieceAt_1 : Sig := ⟨82, [.val .pt, .cell 42 .rat], [.val .bool], fun ((p : Pt), (x : Rt), _) => ⟨[goodRt p.x = true, goodRt x = true], (!lessRt p.x x, ()), (x, ())⟩⟩
theorem ok_impl_pieceAt_1 : GSpec Tryz.prog s_impl_pieceAt_1 := by
  refine fn_known tab_ok fol (Known.nil.cons ok_impl_less (by kernel_rfl)) (by decide) Tryz.func82 ?_
  rintro ⟨⟨⟨(n : Int), (d : Int)⟩, ⟨(m : Int), (e : Int)⟩⟩, ⟨(n' : Int), (d' : Int)⟩, ⟨⟩⟩ hl ⟨h1, h2, _⟩
  repeat' (first | with_reducible apply andAll_cons | with_reducible apply andAll_nil | (with_reducible apply Cf.mk; kernel_rfl) | apply And.intro | intro _ | exact True.intro | apply Lf.mk)
  all_goals first | assumption | rfl
noncomputable def s_impl_pieceAt : Sig := ⟨55, [.list .pt, .val .rat], [.val NI], fun ((f : List Pt), (x : Rt), _) => ⟨[∀ p ∈ f, goodRt p.x = true, goodRt x = true], ((pcN f x : Int), ()), ()⟩⟩
theorem idx_lo {α : Type} {p : α → Bool} {l : List α} : -9223372036854775808 ≤ idxF p l - 1 := by have := idxF_rng p l; omega
theorem idx_hi {α : Type} {p : α → Bool} {l : List α} (hl : l.length ≤ 9223372036854775807) : idxF p l - 1 ≤ 9223372036854775807 := by have := idxF_rng p l; omega
theorem if_toNat (a : Int) : (if a < 0 then 0 else a) = (a.toNat : Int) := by split <;> omega
theorem ok_impl_pieceAt : GSpec Tryz.prog s_impl_pieceAt := by
  refine fn_known tab_ok fol ((Known.nil.cons ok_lib_IndexFuncPoint (by kernel_rfl)).cons ok_impl_pieceAt_1 (by kernel_rfl)) (by decide) Tryz.func55 ?_
  rintro ⟨(f : List Pt), ⟨(n : Int), (d : Int)⟩, ⟨⟩⟩ ⟨hl, _⟩ ⟨h1, h2, _⟩
  have hl : f.length ≤ 9223372036854775807 := hl
  repeat' (first | with_reducible apply andAll_cons | with_reducible apply andAll_nil | (with_reducible apply Cf.mk; kernel_rfl) | apply And.intro | intro _ | exact True.intro | apply Lf.mk)
  all_goals (try simp only [Bool.not_eq_true', Bool.not_eq_false', Bool.not_not, decide_eq_true_eq, decide_eq_false_iff_not, beq_iff_eq, bne_iff_ne, beq_eq_false_iff_ne, bne_eq_false_iff_eq, ne_eq, Bool.and_eq_true, Bool.and_eq_false_iff, Bool.or_eq_true, Bool.or_eq_false_iff, Int.toNat_natCast, Nat.zero_add, Int.ofNat_lt, Int.ofNat_le, List.length_cons, List.length_nil, List.drop_zero, List.take_length] at *)
  all_goals first | exact h1 _ (by assumption) | exact h2 | rfl | exact idx_lo | exact idx_hi hl | exact if_toNat _
noncomputable def s_spec_imPiece : Sig := ⟨33, [.list .pt, .val .rat], [.val NI], fun ((f : List Pt), (x : Rt), _) => ⟨[mapOk f = true, unitRt x = true], ((pcN f x : Int), ()), ()⟩⟩
theorem bE {P Q : Bool} (h : (bif P then Q else false) = true) : P = true ∧ Q = true := by revert h; cases P <;> cases Q <;> decide
theorem bF {P Q : Bool} (h : (bif P then Q else false) = false) (h2 : P = true) : Q = false := by revert h h2; cases P <;> cases Q <;> decide
theorem succ_nat (i : Nat) : ((i : Int) + 1).toNat = i + 1 := by omega
theorem cmp_lt' {a b : Rt} (h : decide (cmpRt a b < 0) = true) : ltR a b := cmpRt_neg.1 (of_decide_eq_true h)
theorem cmp_ge' {a b : Rt} (h : decide (cmpRt a b < 0) = false) : ¬ ltR a b := fun h2 => of_decide_eq_false h (cmpRt_neg.2 h2)
theorem ok_spec_imPiece : GSpec Tryz.prog s_spec_imPiece := by
  refine fn_known tab_ok fol (Known.nil.cons ok_spec_raCmp (by kernel_rfl)) (by decide) Tryz.func33 ?_
  rintro ⟨(f : List Pt), ⟨(n : Int), (d : Int)⟩, ⟨⟩⟩ ⟨hl, _⟩ ⟨h1, h2, _⟩
  have h3 := mapOk_iff.1 h1
  refine ⟨Nat, fun i => ⟨[(5, .sc (.num .i64 i))], [100000, 3], []⟩, fun i => i + 1 < f.length ∧ ∀ j, 0 < j → j ≤ i → ltR (getA zP f j).x ⟨n, d⟩, fun i => f.length - i, ⟨0, ⟨by omega, fun j hj hj2 => by omega⟩, ?_⟩, ?_⟩
  · repeat' (first | apply And.intro | exact True.intro | exact Lf.mk (by with_reducible rfl) | apply Lf.mk)
    all_goals rfl
  · rintro i ⟨g1, g2⟩
    repeat' (first | with_reducible apply andAll_cons | with_reducible apply andAll_nil | (with_reducible apply Cf.mk; kernel_rfl) | apply And.intro | intro _ | exact True.intro | apply Lf.mk)
    all_goals (try simp only [Bool.not_eq_true', Bool.not_eq_false', Bool.not_not, decide_eq_true_eq, decide_eq_false_iff_not, beq_iff_eq, bne_iff_ne, beq_eq_false_iff_ne, bne_eq_false_iff_eq, ne_eq, Bool.and_eq_true, Bool.and_eq_false_iff, Bool.or_eq_true, Bool.or_eq_false_iff, Int.toNat_natCast, Nat.zero_add, Int.ofNat_lt, Int.ofNat_le, List.length_cons, List.length_nil, List.drop_zero, List.take_length] at *)
    all_goals first | omega | contradiction | exact coord_good (ptOk_iff.1 (map_pt h1 (i := ((i : Int) + 1).toNat) (by omega))).1 | exact unit_good h2 | skip
    · rename_i h4 h5
      have h6 := cmp_lt' (bE h5).2
      rw [succ_nat] at h6
      refine ⟨i + 1, ⟨by omega, fun j hj hj2 => ?_⟩, by omega, ?_⟩
      · rcases Nat.lt_or_eq_of_le hj2 with h7 | h7
        · exact g2 j hj (by omega)
        · rw [h7]; exact h6
      · repeat' (first | apply And.intro | exact True.intro | exact Lf.mk (by with_reducible rfl) | apply Lf.mk)
        all_goals (rw [Int.natCast_add]; rfl)
    · rename_i h4 h5
      have h6 := cmp_ge' (bF h5 (decide_eq_true h4))
      rw [succ_nat] at h6
      exact congrArg Int.ofNat (pc_uniq h1 h2 g2 (fun h => h6 h.2) g1)
    · rename_i h4
      exact congrArg Int.ofNat (pc_uniq h1 h2 g2 (fun h => by omega) g1)
noncomputable def s_calc_value : Sig := ⟨36, [.cell cT .bool, .list .pt, .val .rat], [.val .rat], fun ((c : Bool), (f : List Pt), (x : Rt), _) => ⟨[mapOk f = true, unitRt x = true], (vO f x, ()), (c || !(vR f x).2, ())⟩⟩
theorem ok_calc_value : GSpec Tryz.prog s_calc_value := by
  refine fn_known tab_ok fol (((Known.nil.cons ok_impl_pieceAt (by kernel_rfl)).cons ok_calc_slope (by kernel_rfl)).cons ok_calc_line (by kernel_rfl)) (by decide) Tryz.func36 ?_
  rintro ⟨(c : Bool), (f : List Pt), ⟨(n : Int), (d : Int)⟩, ⟨⟩⟩ ⟨_, hl, _⟩ ⟨h1, h2, _⟩
  obtain ⟨p1, p2, p3, p4⟩ := pc_spec h1 h2
  obtain ⟨m1, m2, m3, m4, m5⟩ := mapOk_iff.1 h1
  have a1 := map_pt h1 (i := pcN f ⟨n, d⟩) (by omega)
  have a2 := map_pt h1 (i := pcN f ⟨n, d⟩ + 1) (by omega)
  obtain ⟨s1, s2, s3⟩ := slR_ok a1 a2 (m5 _ p1)
  repeat' (first | with_reducible apply andAll_cons | with_reducible apply andAll_nil | (with_reducible apply Cf.mk; kernel_rfl) | apply And.intro | intro _ | exact True.intro | apply Lf.mk)
  all_goals (try simp only [Bool.not_eq_true', Bool.not_eq_false', Bool.not_not, decide_eq_true_eq, decide_eq_false_iff_not, beq_iff_eq, bne_iff_ne, beq_eq_false_iff_ne, bne_eq_false_iff_eq, ne_eq, Bool.and_eq_true, Bool.and_eq_false_iff, Bool.or_eq_true, Bool.or_eq_false_iff, Int.toNat_natCast, Nat.zero_add, Int.ofNat_lt, Int.ofNat_le, List.length_cons, List.length_nil, List.drop_zero, List.take_length] at *)
  all_goals (try simp only [Int.toNat_natCast, succ_nat] at *)
  all_goals first | omega | assumption | exact coord_good (ptOk_iff.1 (m2 _ (by assumption))).1 | exact unit_good h2 | exact m5 _ p1 | (unfold vO; rfl) | (unfold vR; rfl) | rfl | skip
noncomputable def s_spec_imOn : Sig := ⟨34, [.val .pt, .val .pt, .val .rat], [.val .rat, .val .bool], fun ((p : Pt), (q : Pt), (x : Rt), _) => ⟨[ptOk p = true, ptOk q = true, ltR p.x q.x, goodRt x = true], ((lineR p (slR p q) x).1, (lineR p (slR p q) x).2, ()), ()⟩⟩
theorem mulRt_comm (a b : Rt) : mulRt a b = mulRt b a := by unfold mulRt; rw [Int.mul_comm a.num, Int.mul_comm a.den]
theorem on_bad {p : Pt} {s x : Rt} (h1 : (subRt x p.x).2 = true) (h : (mulRt (subRt x p.x).1 s).2 = false) : (⟨0, 0⟩, false) = lineR p s x := by
  rw [mulRt_comm] at h
  rw [lineR_2 h1 h]
theorem on_ok {p : Pt} {s x : Rt} (h1 : (subRt x p.x).2 = true) (h : (mulRt (subRt x p.x).1 s).2 = true) : addRt p.y (mulRt (subRt x p.x).1 s).1 = lineR p s x := by
  rw [mulRt_comm] at h ⊢
  rw [lineR_3 h1 h]
theorem ok_spec_imOn : GSpec Tryz.prog s_spec_imOn := by
  refine fn_known tab_ok fol ((((Known.nil.cons ok_spec_raSub (by kernel_rfl)).cons ok_spec_imSlope (by kernel_rfl)).cons ok_spec_raMul (by kernel_rfl)).cons ok_spec_raAdd (by kernel_rfl)) (by decide) Tryz.func34 ?_
  rintro ⟨⟨⟨(n : Int), (d : Int)⟩, ⟨(m : Int), (e : Int)⟩⟩, ⟨⟨(n' : Int), (d' : Int)⟩, ⟨(m' : Int), (e' : Int)⟩⟩, ⟨(n2 : Int), (d2 : Int)⟩, ⟨⟩⟩ hl ⟨h1, h2, h3, h4, _⟩
  obtain ⟨s1, s2, s3⟩ := slR_ok h1 h2 h3
  have hp := ptOk_iff.1 h1
  have g1 := ok_good (coord_good hp.1)
  have g2 := ok_good (coord_good hp.2)
  have g3 := ok_good h4
  have g4 := ok_good s2
  dsimp only at *
  repeat' (first | with_reducible apply andAll_cons | with_reducible apply andAll_nil | (with_reducible apply Cf.mk; kernel_rfl) | apply And.intro | intro _ | exact True.intro | apply Lf.mk)
  all_goals (try simp only [Bool.not_eq_true', Bool.not_eq_false', Bool.not_not, decide_eq_true_eq, decide_eq_false_iff_not, beq_iff_eq, bne_iff_ne, beq_eq_false_iff_ne, bne_eq_false_iff_eq, ne_eq, Bool.and_eq_true, Bool.and_eq_false_iff, Bool.or_eq_true, Bool.or_eq_false_iff, Int.toNat_natCast, Nat.zero_add, Int.ofNat_lt, Int.ofNat_le, List.length_cons, List.length_nil, List.drop_zero, List.take_length] at *)
  all_goals first
    | assumption
    | contradiction
    | exact congrArg Prod.fst (on_bad (p := ⟨⟨n, d⟩, ⟨m, e⟩⟩) (x := ⟨n2, d2⟩) (by assumption) (by assumption))
    | exact congrArg Prod.snd (on_bad (p := ⟨⟨n, d⟩, ⟨m, e⟩⟩) (x := ⟨n2, d2⟩) (by assumption) (by assumption))
    | exact congrArg Prod.fst (on_ok (p := ⟨⟨n, d⟩, ⟨m, e⟩⟩) (x := ⟨n2, d2⟩) (by assumption) (by assumption))
    | exact congrArg Prod.snd (on_ok (p := ⟨⟨n, d⟩, ⟨m, e⟩⟩) (x := ⟨n2, d2⟩) (by assumption) (by assumption))
    | exact congrArg Prod.fst (lineR_1 (p := ⟨⟨n, d⟩, ⟨m, e⟩⟩) (x := ⟨n2, d2⟩) (by assumption)).symm
    | exact congrArg Prod.snd (lineR_1 (p := ⟨⟨n, d⟩, ⟨m, e⟩⟩) (x := ⟨n2, d2⟩) (by assumption)).symm
    | exact lowRt_ok
    | skip
noncomputable def s_spec_imAt : Sig := ⟨18, [.list .pt, .val .rat], [.val .rat, .val .bool], fun ((f : List Pt), (x : Rt), _) => ⟨[mapOk f = true, unitRt x = true], ((vR f x).1, (vR f x).2, ()), ()⟩⟩
theorem ok_spec_imAt : GSpec Tryz.prog s_spec_imAt := by
  refine fn_known tab_ok fol ((Known.nil.cons ok_spec_imPiece (by kernel_rfl)).cons ok_spec_imOn (by kernel_rfl)) (by decide) Tryz.func18 ?_
  rintro ⟨(f : List Pt), ⟨(n : Int), (d : Int)⟩, ⟨⟩⟩ ⟨hl, _⟩ ⟨h1, h2, _⟩
  obtain ⟨p1, p2, p3, p4⟩ := pc_spec h1 h2
  obtain ⟨m1, m2, m3, m4, m5⟩ := mapOk_iff.1 h1
  have a1 := map_pt h1 (i := pcN f ⟨n, d⟩) (by omega)
  have a2 := map_pt h1 (i := pcN f ⟨n, d⟩ + 1) (by omega)
  repeat' (first | with_reducible apply andAll_cons | with_reducible apply andAll_nil | (with_reducible apply Cf.mk; kernel_rfl) | apply And.intro | intro _ | exact True.intro | apply Lf.mk)
  all_goals (try simp only [Bool.not_eq_true', Bool.not_eq_false', Bool.not_not, decide_eq_true_eq, decide_eq_false_iff_not, beq_iff_eq, bne_iff_ne, beq_eq_false_iff_ne, bne_eq_false_iff_eq, ne_eq, Bool.and_eq_true, Bool.and_eq_false_iff, Bool.or_eq_true, Bool.or_eq_false_iff, Int.toNat_natCast, Nat.zero_add, Int.ofNat_lt, Int.ofNat_le, List.length_cons, List.length_nil, List.drop_zero, List.take_length] at *)
  all_goals (try simp only [Int.toNat_natCast, succ_nat] at *)
  all_goals first | omega | assumption | exact coord_good (ptOk_iff.1 (m2 _ (by assumption))).1 | exact unit_good h2 | exact m5 _ p1 | (unfold vO; rfl) | (unfold vR; rfl) | rfl | skip
end Go.Vx
