/- What is drawn for the laws of Farey fractions. -/
import Derived.Test.YtfnfbomnijlhcaaVxDr
import Derived.Test.YtfnfbomnijlhcaaVxFa
import Derived.Test.YtfnfbomnijlhcaaVxD
import Derived.Test.YtfnfbomnijlhcaaVxG
namespace Go.Vx
open Go Go.Proofs
set_option maxRecDepth 100000
set_option linter.unusedSimpArgs false
set_option linter.unusedVariables false

def c0 (r : Raw) : Cur := ⟨r, 0, 0⟩
theorem c0_r (r : Raw) : (c0 r).r = r := rfl
theorem c0_at (r : Raw) {m : Nat} (h : m ≤ 1000) : AtOk m (c0 r) := ⟨by show (0 : Int) ≤ 0; omega, by show (0 : Int) + (m : Int) ≤ _; omega⟩
theorem rt_eta (x : Rt) : (⟨x.num, x.den⟩ : Rt) = x := rfl
theorem c0_mk (r : Raw) : (⟨r, 0, 0⟩ : Cur) = c0 r := rfl

theorem uniV_good (c : Cur) : goodRt (uniV c) = true := by
  have h1 := uniD_rng c
  have h2 := pickV_lt (uniS1 c) (n := uniD c + 1) (by omega)
  unfold uniV
  exact lowRt_good1 (low_small (by omega) (by omega) (by omega))
theorem griV_good {c : Cur} {n : Int} (h : 1 ≤ n) (h2 : n ≤ 100000) : goodRt (griV c n) = true := by
  have h3 := pickV_lt c (n := n + 1) (by omega)
  unfold griV
  exact lowRt_good1 (low_small (by omega) (by omega) (by omega))

/-! orders and their neighbours -/

@[irreducible] noncomputable def dfl (r : Raw) : Int := ordV (c0 r)
noncomputable def s_spec_DrawFareyList : Sig := ⟨4, [.val .raw], [.val NI], fun ((r : Raw), _) => ⟨[], (dfl r, ()), ()⟩⟩
theorem ok_spec_DrawFareyList : GSpec Try.prog s_spec_DrawFareyList := by
  refine fn_known tab_ok fol (Known.nil.cons ok_cur_fareyOrder (by kernel_rfl)) (by decide) Try.func4 ?_
  rintro ⟨(r : Raw), ⟨⟩⟩ hl _
  repeat' (first | with_reducible apply andAll_cons | with_reducible apply andAll_nil | (with_reducible apply Cf.mk; kernel_rfl) | apply And.intro | intro _ | exact True.intro | apply Lf.mk)
  all_goals first | exact ⟨100000, rfl⟩ | exact c0_at r (by decide) | (unfold dfl; rfl) | trace_state

/-- the fraction, and where the cursor stands, behind the first choice -/
noncomputable def dfnS2 (c : Cur) : Cur := ordS (uniS c)
noncomputable def dfnN (c : Cur) : Int := ordV (uniS c)
noncomputable def dfnX1 (c : Cur) : Rt := if inB (dfnN c) 1 20 = true then (if pickV (dfnS2 c) 4 = 0 then uniV c else griV (pickS (dfnS2 c) 4) (dfnN c)) else uniV c
noncomputable def dfnS3 (c : Cur) : Cur := if inB (dfnN c) 1 20 = true then (if pickV (dfnS2 c) 4 = 0 then pickS (dfnS2 c) 4 else pickS (pickS (dfnS2 c) 4) (dfnN c + 1)) else dfnS2 c
@[irreducible] noncomputable def dfnX (r : Raw) : Rt := if pickV (dfnS3 (c0 r)) 20 = 0 then anyV (pickS (dfnS3 (c0 r)) 20) else dfnX1 (c0 r)
@[irreducible] noncomputable def dfnK (r : Raw) : Int := dfnN (c0 r)
theorem dfn_e1 (c : Cur) : ordS (uniS c) = dfnS2 c := rfl
theorem dfn_e2 (c : Cur) : ordV (uniS c) = dfnN c := rfl
theorem dfnS2_r (c : Cur) : (dfnS2 c).r = c.r := by unfold dfnS2; rw [ordS_r, uniS_r]
theorem inB_t {n a b : Int} (h : inB n a b = true) : a ≤ n ∧ n ≤ b := by unfold inB at h; simpa using h
noncomputable def s_spec_DrawFareyNeighbours : Sig := ⟨7, [.val .raw], [.val .rat, .val NI], fun ((r : Raw), _) => ⟨[], (dfnX r, dfnK r, ()), ()⟩⟩
set_option maxHeartbeats 1000000 in
theorem ok_spec_DrawFareyNeighbours : GSpec Try.prog s_spec_DrawFareyNeighbours := by
  refine fn_known tab_ok fol ((((((Known.nil.cons ok_cur_unitRat (by kernel_rfl)).cons ok_cur_fareyOrder (by kernel_rfl)).cons ok_cur_one (by kernel_rfl)).cons ok_cur_gridRat (by kernel_rfl)).cons ok_cur_anyRat (by kernel_rfl)).cons ok_spec_l1In (by kernel_rfl)) (by decide) Try.func7 ?_
  rintro ⟨(r : Raw), ⟨⟩⟩ hl _
  have a0 := c0_at r (m := 100) (by decide)
  have a1 : AtOk 90 (dfnS2 (c0 r)) := ord_at (uni_at (a0.le (by decide)))
  have a2 : AtOk 88 (pickS (dfnS2 (c0 r)) 4) := pick_at a1
  have a3 : AtOk 86 (pickS (pickS (dfnS2 (c0 r)) 4) (dfnN (c0 r) + 1)) := pick_at a2
  have e3 : dfnX r = if pickV (dfnS3 (c0 r)) 20 = 0 then anyV (pickS (dfnS3 (c0 r)) 20) else dfnX1 (c0 r) := by unfold dfnX; rfl
  have e4 : dfnK r = dfnN (c0 r) := by unfold dfnK; rfl
  repeat' (first | with_reducible apply andAll_cons | with_reducible apply andAll_nil | (with_reducible apply Cf.mk; kernel_rfl) | apply And.intro | intro _ | exact True.intro | apply Lf.mk)
  all_goals (try simp only [cur_eta, c0_mk, dfn_e1, dfn_e2, Bool.not_eq_true', Bool.not_eq_false', beq_iff_eq, beq_eq_false_iff_ne] at *)
  all_goals first
    | (simp only [dfnS2_r, anyS_r, ratS_r, uniS_r, ordS_r, pickS_r, c0_r]; exact ⟨100000, rfl⟩) | exact ⟨100000, rfl⟩
    | exact a0.le (by decide) | exact (uni_at (a0.le (by decide))).le (m := 90) (by decide) | exact a1.le (by decide) | exact a2.le (by decide) | exact a3.le (by decide)
    | exact (inB_t (by assumption)).1 | exact Int.le_trans (inB_t (by assumption)).2 (by decide)
    | exact (pick_at a1).le (by decide) | exact (pick_at a2).le (by decide) | exact (pick_at a3).le (by decide)
    | exact e4.symm
    | (rw [e3]; simp_all [dfnS3, dfnX1]; done)
    | trace_state

/-! best approximations -/

noncomputable def dbG (c : Cur) : Int := amongV (pickS (uniS c) 2) [997, 40, 26, 2000]
noncomputable def dbX1 (c : Cur) : Rt := if pickV (uniS c) 2 = 0 then griV (pickS (pickS (uniS c) 2) 4) (dbG c) else uniV c
noncomputable def dbS (c : Cur) : Cur := if pickV (uniS c) 2 = 0 then pickS (pickS (pickS (uniS c) 2) 4) (dbG c + 1) else pickS (uniS c) 2
@[irreducible] noncomputable def dbX (r : Raw) : Rt := if pickV (dbS (c0 r)) 20 = 0 then anyV (pickS (dbS (c0 r)) 20) else dbX1 (c0 r)
@[irreducible] noncomputable def dbK (r : Raw) : Int := if pickV (dbS (c0 r)) 20 = 0 then ordV (anyS (pickS (dbS (c0 r)) 20)) else ordV (pickS (dbS (c0 r)) 20)
theorem dbG_rng (c : Cur) : 26 ≤ dbG c ∧ dbG c ≤ 2000 := by
  unfold dbG
  refine among_all (p := fun x => 26 ≤ x ∧ x ≤ 2000) (fun x hx => ?_) (by simp)
  simp only [List.mem_cons, List.not_mem_nil, or_false] at hx
  omega
theorem db_e1 (c : Cur) : amongV (pickS (uniS c) 2) [997, 40, 26, 2000] = dbG c := rfl
noncomputable def s_spec_DrawBestApproximation : Sig := ⟨15, [.val .raw], [.val .rat, .val NI], fun ((r : Raw), _) => ⟨[], (dbX r, dbK r, ()), ()⟩⟩
set_option maxHeartbeats 1000000 in
theorem ok_spec_DrawBestApproximation : GSpec Try.prog s_spec_DrawBestApproximation := by
  refine fn_known tab_ok fol ((((((Known.nil.cons ok_cur_unitRat (by kernel_rfl)).cons ok_cur_fareyOrder (by kernel_rfl)).cons ok_cur_one (by kernel_rfl)).cons ok_cur_among (by kernel_rfl)).cons ok_cur_gridRat (by kernel_rfl)).cons ok_cur_anyRat (by kernel_rfl)) (by decide) Try.func15 ?_
  rintro ⟨(r : Raw), ⟨⟩⟩ hl _
  have a0 := c0_at r (m := 100) (by decide)
  have a1 : AtOk 90 (uniS (c0 r)) := uni_at (a0.le (by decide))
  have a2 : AtOk 88 (pickS (uniS (c0 r)) 2) := pick_at a1
  have a3 : AtOk 86 (pickS (pickS (uniS (c0 r)) 2) 4) := pick_at a2
  have a4 : AtOk 84 (pickS (pickS (pickS (uniS (c0 r)) 2) 4) (dbG (c0 r) + 1)) := pick_at a3
  have a5 : AtOk 82 (pickS (pickS (pickS (pickS (uniS (c0 r)) 2) 4) (dbG (c0 r) + 1)) 20) := pick_at a4
  have a6 : AtOk 64 (anyS (pickS (pickS (pickS (pickS (uniS (c0 r)) 2) 4) (dbG (c0 r) + 1)) 20)) := any_at a5
  have b5 : AtOk 86 (pickS (pickS (uniS (c0 r)) 2) 20) := pick_at a2
  have b6 : AtOk 68 (anyS (pickS (pickS (uniS (c0 r)) 2) 20)) := any_at b5
  have hg := dbG_rng (c0 r)
  have e3 : dbX r = if pickV (dbS (c0 r)) 20 = 0 then anyV (pickS (dbS (c0 r)) 20) else dbX1 (c0 r) := by unfold dbX; rfl
  have e4 : dbK r = if pickV (dbS (c0 r)) 20 = 0 then ordV (anyS (pickS (dbS (c0 r)) 20)) else ordV (pickS (dbS (c0 r)) 20) := by unfold dbK; rfl
  repeat' (first | with_reducible apply andAll_cons | with_reducible apply andAll_nil | (with_reducible apply Cf.mk; kernel_rfl) | apply And.intro | intro _ | exact True.intro | apply Lf.mk)
  all_goals (try simp only [cur_eta, c0_mk, db_e1, Bool.not_eq_true', Bool.not_eq_false', beq_iff_eq, beq_eq_false_iff_ne, List.length_cons, List.length_nil, Nat.zero_add, Nat.reduceAdd, Int.cast_ofNat_Int] at *)
  all_goals first
    | (simp only [anyS_r, ratS_r, uniS_r, ordS_r, pickS_r, c0_r]; exact ⟨100000, rfl⟩) | exact ⟨100000, rfl⟩
    | exact a0.le (by decide) | exact a1.le (by decide) | exact a2.le (by decide) | exact a3.le (by decide) | exact a4.le (by decide) | exact a5.le (by decide) | exact a6.le (by decide) | exact b5.le (by decide) | exact b6.le (by decide)
    | exact hg.1 | omega | decide | (show 1 ≤ List.length _; simp; done)
    | (rw [e3]; simp_all [dbS, dbX1]; done)
    | (rw [e4]; simp_all [dbS, dbX1]; done)
    | trace_state

/-! mediants -/

noncomputable def dmS2 (c : Cur) : Cur := uniS (uniS c)
noncomputable def dmN (c : Cur) : Int := 2 + pickV (pickS (dmS2 c) 4) 12
noncomputable def dmS4 (c : Cur) : Cur := pickS (pickS (dmS2 c) 4) 12
noncomputable def dmI (c : Cur) : Int := idxF (fun y => eqRt (griV (dmS4 c) (dmN c)) y) (faL (dmN c))
/-- the two fractions, and where the cursor stands -/
noncomputable def dmA (c : Cur) : Rt := if pickV (dmS2 c) 4 = 0 then griV (dmS4 c) (dmN c) else uniV c
noncomputable def dmB (c : Cur) : Rt := if pickV (dmS2 c) 4 = 0 then (if dmI c + 1 < ((faL (dmN c)).length : Int) then getA (VK.dflt .rat) (faL (dmN c)) (dmI c + 1).toNat else uniV (uniS c)) else uniV (uniS c)
noncomputable def dmS (c : Cur) : Cur := if pickV (dmS2 c) 4 = 0 then pickS (dmS4 c) (dmN c + 1) else pickS (dmS2 c) 4
noncomputable def dmT (a b : Rt) (c : Cur) : Rt × Rt := if pickV c 12 = 0 then (a, anyV (pickS c 12)) else (a, b)
noncomputable def dmU (a b : Rt) (c : Cur) : Rt × Rt := if 0 < cmpRt a b then (if pickV c 12 = 0 then dmT a b (pickS c 12) else (b, a)) else dmT a b c
@[irreducible] noncomputable def dmR (r : Raw) : Rt × Rt := dmU (dmA (c0 r)) (dmB (c0 r)) (dmS (c0 r))
theorem dm_e1 (c : Cur) : uniS (uniS c) = dmS2 c := rfl
theorem dm_e2 (c : Cur) : 2 + pickV (pickS (dmS2 c) 4) 12 = dmN c := rfl
theorem dm_e3 (c : Cur) : pickS (pickS (dmS2 c) 4) 12 = dmS4 c := rfl
theorem dm_e4 (c : Cur) : idxF (fun y => eqRt (griV (dmS4 c) (dmN c)) y) (faL (dmN c)) = dmI c := rfl
theorem dmS2_r (c : Cur) : (dmS2 c).r = c.r := by unfold dmS2; rw [uniS_r, uniS_r]
theorem dmS4_r (c : Cur) : (dmS4 c).r = c.r := by unfold dmS4; rw [pickS_r, pickS_r, dmS2_r]
theorem dmN_rng (c : Cur) : 2 ≤ dmN c ∧ dmN c ≤ 13 := by
  have := pickV_lt (pickS (dmS2 c) 4) (n := 12) (by omega)
  unfold dmN
  omega
theorem idxF_rg {α : Type} (p : α → Bool) (l : List α) : -1 ≤ idxF p l ∧ idxF p l < (l.length : Int) := by
  unfold idxF
  split
  · rename_i i h
    obtain ⟨h1, _⟩ := List.findIdx?_eq_some_iff_getElem.1 h
    omega
  · omega
theorem faL_good {n : Int} {i : Nat} (h : n ≤ 20) (hi : i < (faL n).length) : goodRt (getA zR (faL n) i) = true := getA_all (faL_gd h) hi
noncomputable def s_spec_DrawMediantOf : Sig := ⟨10, [.val .raw], [.val .rat, .val .rat], fun ((r : Raw), _) => ⟨[], ((dmR r).1, (dmR r).2, ()), ()⟩⟩
set_option maxHeartbeats 2000000 in
theorem ok_spec_DrawMediantOf : GSpec Try.prog s_spec_DrawMediantOf := by
  refine fn_known tab_ok fol ((((((((Known.nil.cons ok_cur_unitRat (by kernel_rfl)).cons ok_cur_one (by kernel_rfl)).cons ok_cur_pick (by kernel_rfl)).cons ok_cur_gridRat (by kernel_rfl)).cons ok_cur_anyRat (by kernel_rfl)).cons ok_spec_faList (by kernel_rfl)).cons ok_spec_orAt (by kernel_rfl)).cons ok_spec_raCmp (by kernel_rfl)) (by decide) Try.func10 ?_
  rintro ⟨(r : Raw), ⟨⟩⟩ hl _
  have a0 := c0_at r (m := 100) (by decide)
  have a1 : AtOk 90 (uniS (c0 r)) := uni_at (a0.le (by decide))
  have a2 : AtOk 80 (dmS2 (c0 r)) := uni_at (a1.le (by decide))
  have a3 : AtOk 78 (pickS (dmS2 (c0 r)) 4) := pick_at a2
  have a4 : AtOk 76 (dmS4 (c0 r)) := pick_at a3
  have a5 : AtOk 74 (pickS (dmS4 (c0 r)) (dmN (c0 r) + 1)) := pick_at a4
  have hn := dmN_rng (c0 r)
  have hi := idxF_rg (fun y => eqRt (griV (dmS4 (c0 r)) (dmN (c0 r))) y) (faL (dmN (c0 r)))
  rw [dm_e4] at hi
  have hlen := faL_len (n := dmN (c0 r)) (by omega)
  have hp := pickV_lt (pickS (dmS2 (c0 r)) 4) (n := 12) (by omega)
  have g1 := uniV_good (c0 r)
  have g2 := uniV_good (uniS (c0 r))
  have g3 := griV_good (c := dmS4 (c0 r)) (n := dmN (c0 r)) (by omega) (by omega)
  have e3 : dmR r = dmU (dmA (c0 r)) (dmB (c0 r)) (dmS (c0 r)) := by unfold dmR; rfl
  repeat' (first | with_reducible apply andAll_cons | with_reducible apply andAll_nil | (with_reducible apply Cf.mk; kernel_rfl) | apply And.intro | intro _ | exact True.intro | apply Lf.mk)
  all_goals (try simp only [Bool.not_eq_true', Bool.not_eq_false', beq_iff_eq, beq_eq_false_iff_ne, decide_eq_true_eq, decide_eq_false_iff_not] at *)
  all_goals (try simp only [cur_eta, rt_eta, c0_mk, dm_e1, dm_e2, dm_e3, dm_e4] at *)
  all_goals first
    | (simp only [anyS_r, ratS_r, uniS_r, ordS_r, pickS_r, dmS2_r, dmS4_r, c0_r]; exact ⟨100000, rfl⟩) | exact ⟨100000, rfl⟩
    | exact a0.le (by decide) | exact a1.le (by decide) | exact a2.le (by decide) | exact a3.le (by decide) | exact a4.le (by decide) | exact a5.le (by decide)
    | exact (pick_at a3).le (by decide) | exact (pick_at (pick_at a3)).le (by decide) | exact (pick_at a5).le (by decide) | exact (pick_at (pick_at a5)).le (by decide)
    | exact g1 | exact g2 | exact g3 | exact faL_good (by omega) (by omega) | omega | decide
    | (rw [e3]; simp only [dmU, dmT, dmA, dmB, dmS, *, if_true, if_false, ne_eq, not_false_iff, reduceIte]; done)
    | (rw [e3]; clear e3; simp only [dmS4] at *; simp only [dmU, dmT, dmA, dmB, dmS, dmS4, *, if_true, if_false, ne_eq, not_false_iff, reduceIte]; done)
    | (rw [e3]; simp_all [dmA, dmB, dmS, dmT, dmU]; done)
    | trace_state

/-! simplest fractions -/

noncomputable def dsN (c : Cur) : Int := amongV (pickS c 8) [500, 999, 1000, 1001, 30000]
theorem dsN_rng (c : Cur) : 500 ≤ dsN c ∧ dsN c ≤ 30000 := by
  unfold dsN
  refine among_all (p := fun x => 500 ≤ x ∧ x ≤ 30000) (fun x hx => ?_) (by simp)
  simp only [List.mem_cons, List.not_mem_nil, or_false] at hx
  omega
theorem ds_e1 (c : Cur) : amongV (pickS c 8) [500, 999, 1000, 1001, 30000] = dsN c := rfl
@[irreducible] noncomputable def dsR (r : Raw) : Rt × Rt := if pickV (c0 r) 8 = 0 then ((lowRt ((dsN (c0 r)).tdiv 2) (dsN (c0 r))).1, (lowRt ((dsN (c0 r)).tdiv 2 + 1) (dsN (c0 r))).1) else dmR r
theorem tdiv2 {n : Int} (h : 500 ≤ n ∧ n ≤ 30000) : 0 ≤ n.tdiv 2 ∧ n.tdiv 2 ≤ 15000 := by
  rw [Int.tdiv_eq_ediv_of_nonneg (by omega)]; omega
noncomputable def s_spec_DrawSimplestBetween : Sig := ⟨18, [.val .raw], [.val .rat, .val .rat], fun ((r : Raw), _) => ⟨[], ((dsR r).1, (dsR r).2, ()), ()⟩⟩
set_option maxHeartbeats 1000000 in
theorem ok_spec_DrawSimplestBetween : GSpec Try.prog s_spec_DrawSimplestBetween := by
  refine fn_known tab_ok fol ((((Known.nil.cons ok_cur_one (by kernel_rfl)).cons ok_cur_among (by kernel_rfl)).cons ok_spec_raMake (by kernel_rfl)).cons ok_spec_DrawMediantOf (by kernel_rfl)) (by decide) Try.func18 ?_
  rintro ⟨(r : Raw), ⟨⟩⟩ hl _
  have a0 := c0_at r (m := 100) (by decide)
  have a1 : AtOk 90 (pickS (c0 r) 8) := pick_at (a0.le (by decide))
  have hn := dsN_rng (c0 r)
  have ht := tdiv2 hn
  have e3 : dsR r = if pickV (c0 r) 8 = 0 then ((lowRt ((dsN (c0 r)).tdiv 2) (dsN (c0 r))).1, (lowRt ((dsN (c0 r)).tdiv 2 + 1) (dsN (c0 r))).1) else dmR r := by unfold dsR; rfl
  repeat' (first | with_reducible apply andAll_cons | with_reducible apply andAll_nil | (with_reducible apply Cf.mk; kernel_rfl) | apply And.intro | intro _ | exact True.intro | apply Lf.mk)
  all_goals (try simp only [Bool.not_eq_true', Bool.not_eq_false', beq_iff_eq, beq_eq_false_iff_ne, decide_eq_true_eq, decide_eq_false_iff_not] at *)
  all_goals (try simp only [cur_eta, rt_eta, c0_mk, ds_e1] at *)
  all_goals first
    | (simp only [pickS_r, c0_r]; exact ⟨100000, rfl⟩) | exact ⟨100000, rfl⟩
    | exact a0.le (by decide) | exact a1.le (by decide) | (show 1 ≤ List.length _; simp; done) | omega | decide
    | (rw [e3]; simp only [*, if_true, if_false, ne_eq, not_false_iff, reduceIte]; done)
    | trace_state
end Go.Vx
