/- When a change is a conjugacy: the program's function and the reference's. -/
import Derived.Test.YtjiafbjoijffjaaGreatPk19
import Derived.Test.YtjiafbjoijffjaaGreatPk15
import Derived.Shelf.Lay
import Derived.BigQuiet
import Derived.Test.YtjiafbjoijffjaaGreatPk18
namespace Go.Vx
open Go Go.Proofs Go.Shelf Go.RowKit Go.Sort
set_option maxRecDepth 100000
set_option linter.unusedSimpArgs false
set_option linter.unusedVariables false

theorem wrap18 {n : Int} (h : -1000000000000000000 ≤ n ∧ n ≤ 1000000000000000000) : IntKind.i64.wrap n = n := by
  simp only [IntKind.wrap, IntKind.bits, IntKind.signed]; simp; omega

set_option maxHeartbeats 1000000 in
theorem cmp_walk (a b c d : Int) (h1 : -1000000000000000000 ≤ a * d ∧ a * d ≤ 1000000000000000000) (h2 : -1000000000000000000 ≤ c * b ∧ c * b ≤ 1000000000000000000) (W : World) :
    Calls Tryz.prog 173 #[.agg #[.int .i64 a, .int .i64 b], .agg #[.int .i64 c, .int .i64 d]] W fun e w' => e = .returned (.int .i64 (sgn (a * d - c * b))) ∧ ∃ q os', w' = grow (W.drewN q) os' := by
  have w1 := wrap18 h1
  have w2 := wrap18 h2
  go_enter Tryz.func173, Tryz.ntmps173
  go_wp2
  go_quiet (fail)
  go_wp2
  · have e : sgn (a * d - c * b) = -1 := by unfold sgn; rw [if_pos (by omega)]
    rw [e]
    go_ret
    exact ⟨rfl, nq, _, by rw [alloc_eq_grow, alloc_eq_grow, grow_grow]; rfl⟩
  · have e : sgn (a * d - c * b) = 1 := by unfold sgn; rw [if_neg (by omega), if_pos (by omega)]
    rw [e]
    go_ret
    exact ⟨rfl, nq, _, by rw [alloc_eq_grow, alloc_eq_grow, grow_grow]; rfl⟩
  · have e : sgn (a * d - c * b) = 0 := by unfold sgn; rw [if_neg (by omega), if_neg (by omega)]
    rw [e]
    go_ret
    exact ⟨rfl, nq, _, by rw [alloc_eq_grow, alloc_eq_grow, grow_grow]; rfl⟩

theorem cmp_lays (x y : GR) (W : World) : Calls Tryz.prog 173 #[.agg (encG x).toArray, .agg (encG y).toArray] W fun e w' => e = .returned (.int .i64 (cmpG x y)) ∧ ∃ q os', w' = grow (W.drewN q) os' := by
  obtain ⟨⟨a, b⟩, hx⟩ := x
  obtain ⟨⟨c, d⟩, hy⟩ := y
  exact cmp_walk a b c d (ratmul hx hy) (ratmul hy hx) W

theorem sort_rat {w : World} {e : TypeId} {v : Value} {xs : List Rt} (hg : Gd xs) (hsz : xs.length ≤ 1000000) (ho : w.ownsRow 0 e 2 v xs.length (flat .rat xs)) :
    Calls Tryz.prog 174 #[v, .func (.func 173) #[] #[]] w fun r w' => r = .returned (.tuple #[]) ∧ ∃ ys : List Rt, ys.Perm xs ∧ (∀ i, i + 1 < ys.length → qR (getA zR ys i) ≤ qR (getA zR ys (i + 1))) ∧
      w'.ownsRow 0 e 2 v ys.length (flat .rat ys) ∧ Kept (fun b => some b = v.ownBlock) w w' :=
  sort_own Tryz.sortRat Tryz.isAgg26 Tryz.sizeOf26 173 (enters_of Tryz.func173 (by kernel_rfl) rfl) cmp_lays hg hsz ho

noncomputable def s_impl_rising : Sig := ⟨102, [.own 26 .rat], [.list 26 .rat], fun ((l : List Rt), _) => ⟨[∀ x ∈ l, goodRt x = true, l.length ≤ 1000000], (putsL [] l, ()), ()⟩⟩
set_option maxHeartbeats 1000000 in
theorem rising_walk (v : Value) (xs : List Rt) (w : World) (hg : Gd xs) (hsz : xs.length ≤ 1000000) (ho : w.ownsRow 0 26 2 v xs.length (flat .rat xs)) :
    Calls Tryz.prog 102 #[v] w fun e w' => ∃ u, e = .returned u ∧ w'.ownsRow 0 26 2 u (putsL [] xs).length (flat .rat (putsL [] xs)) ∧
      (∀ b ∈ u.ownBlock.toList, w.heap.size ≤ b ∨ b ∈ v.ownBlock.toList) ∧ Kept (fun b => b ∈ v.ownBlock.toList) w w' := by
  have c1 := sort_rat hg hsz ho
  have c2 : ∀ (ys : List Rt) (w1 : World), w1.ownsRow 0 26 2 v ys.length (flat .rat ys) → Calls Tryz.prog 175 #[v] w1 fun e w' => ∃ us l, e = .returned (packV us) ∧ RessOk w' [.list 26 .rat] (kpL ys ys.length, ()) us l ∧ l.Nodup ∧ (∀ b ∈ l, w1.heap.size ≤ b ∨ b ∈ v.ownBlock.toList) ∧ True ∧ Kept (fun b => b ∈ ([] : List Nat) ∨ b ∈ v.ownBlock.toList) w1 w' := fun ys w1 h1 => by
    have hn : v.ownBlock.toList.Nodup := by cases v.ownBlock <;> simp
    exact ok_lib_CompactRat (ys, ()) [v] w1 [] [] v.ownBlock.toList ⟨[], v.ownBlock.toList, [], [], ⟨h1, rfl, rfl⟩, ⟨rfl, rfl⟩, rfl, by simp⟩ trivial (by simpa using hn) (fun b _ h => by cases h) trivial
  go_enter Tryz.func102, Tryz.ntmps102
  go_wp2_with fail
  refine c1.mono ?_
  rintro r w1 ⟨rfl, ys, h1, h2, h3, h4⟩
  have c3 := c2 ys w1 h3
  rw [kpL_puts (fun x hx => hg x (h1.mem_iff.1 hx)) h2 h1] at c3
  go_wp2_with fail
  refine c3.mono ?_
  rintro r w2 ⟨us, l, rfl, k1, k2, k3, -, k5⟩
  obtain ⟨u, rfl⟩ : ∃ u, us = [u] := by
    match us, k1 with
    | [u], _ => exact ⟨u, rfl⟩
    | [], h => exact h.elim
    | _ :: _ :: _, ⟨_, _, _, h⟩ => exact h.elim
  obtain ⟨l', q1, q2, q3⟩ := k1
  go_wp2_with fail
  go_ret
  have hl : u.ownBlock.toList = l := by rw [q2, show l' = [] from q3, List.append_nil]
  refine ⟨u, rfl, q1, fun b hb => ?_, ?_⟩
  · rcases k3 b (by rw [← hl]; exact hb) with h | h
    · exact .inl (Nat.le_trans h4.size h)
    · exact .inr h
  · refine (Kept.trans h4 k5).mono fun k _ h => ?_
    rcases h with h | h | h
    · rw [← h]; simp
    · cases h
    · exact h
theorem ok_impl_rising : GSpec Tryz.prog s_impl_rising := by
  intro x vs w rb cb ob hargs hraw hnd hrb hpre
  obtain ⟨(l : List Rt), ⟨⟩⟩ := x
  obtain ⟨h1, h2, _⟩ := hpre
  match vs, hargs with
  | [v], ⟨c1, o1, c2, o2, ⟨g1, g2, g3⟩, ⟨g4, g5⟩, g6, g7⟩ =>
    subst g2 g3 g4 g5
    simp only [List.append_nil, List.nil_append] at g6 g7
    subst g6 g7
    refine (rising_walk v l w h1 h2 g1).mono ?_
    rintro e w' ⟨u, rfl, q1, q2, q3⟩
    refine ⟨[u], u.ownBlock.toList, rfl, ⟨[], q1, by simp, rfl⟩, ?_, q2, trivial, q3.mono fun k _ h => .inr h⟩
    cases u.ownBlock <;> simp
end Go.Vx
namespace Go.Vx
open Go Go.Proofs
set_option maxRecDepth 100000
set_option linter.unusedSimpArgs false
set_option linter.unusedVariables false

theorem eta_rt (p : Rt) : (⟨p.num, p.den⟩ : Rt) = p := rfl
noncomputable def s_calc_before : Sig := ⟨207, [.cell cT .bool, .list .pt, .val .rat], [.list 26 .rat], fun ((c : Bool), (f : List Pt), (y : Rt), _) => ⟨[mapOk f = true, goodRt y = true], (bfO f y, ()), (c || !bfG f y, ())⟩⟩
theorem ok_calc_before : GSpec Tryz.prog s_calc_before := by
  refine fn_known tab_ok fol (((Known.nil.cons ok_impl_compare (by kernel_rfl)).cons ok_calc_back (by kernel_rfl)).cons ok_impl_rising (by kernel_rfl)) (by decide) Tryz.func207 ?_
  rintro ⟨(c : Bool), (f : List Pt), ⟨(n : Int), (d : Int)⟩, ⟨⟩⟩ ⟨hl, _⟩ ⟨h1, h2, _⟩
  obtain ⟨m1, m2, m3, m4, m5⟩ := mapOk_iff.1 h1
  have hpt : ∀ j, j < f.length → goodRt (getA zP f j).y = true := fun j hj => coord_good (ptOk_iff.1 (map_pt h1 hj)).2
  have hlt : ∀ j : Nat, (0 : Int) < (j : Int) → j < f.length → ltR (getA zP f (prI j)).x (getA zP f j).x := fun j h0 hj => by
    obtain ⟨k, rfl⟩ : ∃ k, j = k + 1 := ⟨j - 1, by omega⟩
    rw [prI_succ]; exact m5 k hj
  refine ⟨Nat, fun i => ⟨[(12, .sc (.num .i64 i)), (7, .sc (.own 7777777))], [100001, 5], [(100000, .box cT [.bool (c || !biG f ⟨n, d⟩ i)]), (7777777, .row 26 .rat (biRaw f ⟨n, d⟩ i))]⟩, fun i => i ≤ f.length, fun i => f.length - i, ⟨0, Nat.zero_le _, ?_⟩, ?_⟩
  · have e1 := biG_zero f ⟨n, d⟩
    have e2 := biRaw_zero f ⟨n, d⟩
    repeat' (first | apply And.intro | exact True.intro | exact Lf.mk (by with_reducible rfl) | apply Lf.mk)
    all_goals first | rfl | exact e2.symm | (rw [e1]; cases c <;> rfl) | (rw [e2]; rfl) | trace_state
  · rintro i g1
    have q1 := biRaw_len f ⟨n, d⟩ i
    repeat' (first | with_reducible apply andAll_cons | with_reducible apply andAll_nil | (with_reducible apply Cf.mk; kernel_rfl) | apply And.intro | intro _ | exact True.intro | apply Lf.mk)
    all_goals (try simp only [Bool.not_eq_true', Bool.not_eq_false', Bool.not_not, decide_eq_true_eq, decide_eq_false_iff_not, beq_iff_eq, bne_iff_ne, beq_eq_false_iff_ne, bne_eq_false_iff_eq, ne_eq, Bool.and_eq_true, Bool.and_eq_false_iff, Bool.or_eq_true, Bool.or_eq_false_iff, Int.toNat_natCast, Nat.zero_add, Int.ofNat_lt, Int.ofNat_le, List.length_cons, List.length_nil, List.drop_zero, List.take_length] at *)
    all_goals first | omega | skip
    all_goals first | (exfalso; exact absurd ‹false = true› Bool.false_ne_true) | (simp only [List.length_append, List.length_cons, List.length_nil]; show _ * 16 ≤ _; omega) | (show _ * 16 ≤ _; omega) | exact hpt _ (by omega) | exact cmp_lo _ _ _ _ | exact cmp_hi _ _ _ _ | exact h2 | exact map_pt h1 (by omega) | exact hlt _ (by omega) (by omega) | skip
    · rename_i h5 h6 h7
      have h7 : biT f ⟨n, d⟩ i = true := h7
      have h8 : eqRt (getA zP f i).y ⟨n, d⟩ = true := by assumption
      have h9 := bi_tt h8 h7
      have h10 := bg_t (f := f) (y := ⟨n, d⟩) c h7
      refine ⟨i + 1, by omega, by omega, ?_⟩
      repeat' (first | apply And.intro | exact True.intro | exact Lf.mk (by with_reducible rfl) | apply Lf.mk)
      all_goals first | rfl | exact h9 | exact h10 | (rw [Int.natCast_add]; rfl) | trace_state
    · rename_i h5 h6 h7
      have h7 : biT f ⟨n, d⟩ i = false := h7
      have h8 : eqRt (getA zP f i).y ⟨n, d⟩ = true := by assumption
      have h9 := bi_tf h8 h7
      have h10 := bg_f (f := f) (y := ⟨n, d⟩) c h7
      refine ⟨i + 1, by omega, by omega, ?_⟩
      repeat' (first | apply And.intro | exact True.intro | exact Lf.mk (by with_reducible rfl) | apply Lf.mk)
      all_goals first | rfl | exact h9 | exact h10 | (rw [Int.natCast_add]; rfl) | trace_state
    · rename_i h5 h6
      have h7 : biT f ⟨n, d⟩ i = false := by unfold biT; rw [decide_eq_false (by assumption)]; rfl
      have h8 : eqRt (getA zP f i).y ⟨n, d⟩ = true := by assumption
      have h9 := bi_tf h8 h7
      have h10 := bg_f (f := f) (y := ⟨n, d⟩) c h7
      refine ⟨i + 1, by omega, by omega, ?_⟩
      repeat' (first | apply And.intro | exact True.intro | exact Lf.mk (by with_reducible rfl) | apply Lf.mk)
      all_goals first | rfl | exact h9 | exact h10 | (rw [Int.natCast_add]; rfl) | trace_state
    · rename_i h5 h6 h7
      have h7 : biT f ⟨n, d⟩ i = true := h7
      have h8 : eqRt (getA zP f i).y ⟨n, d⟩ = false := by assumption
      have h9 := bi_ft h8 h7
      have h10 := bg_t (f := f) (y := ⟨n, d⟩) c h7
      refine ⟨i + 1, by omega, by omega, ?_⟩
      repeat' (first | apply And.intro | exact True.intro | exact Lf.mk (by with_reducible rfl) | apply Lf.mk)
      all_goals first | rfl | exact h9 | exact h10 | (rw [Int.natCast_add]; rfl) | trace_state
    · rename_i h5 h6 h7
      have h7 : biT f ⟨n, d⟩ i = false := h7
      have h8 : eqRt (getA zP f i).y ⟨n, d⟩ = false := by assumption
      have h9 := bi_ff h8 h7
      have h10 := bg_f (f := f) (y := ⟨n, d⟩) c h7
      refine ⟨i + 1, by omega, by omega, ?_⟩
      repeat' (first | apply And.intro | exact True.intro | exact Lf.mk (by with_reducible rfl) | apply Lf.mk)
      all_goals first | rfl | exact h9 | exact h10 | (rw [Int.natCast_add]; rfl) | trace_state
    · rename_i h5 h6
      have h7 : biT f ⟨n, d⟩ i = false := by unfold biT; rw [decide_eq_false (by assumption)]; rfl
      have h8 : eqRt (getA zP f i).y ⟨n, d⟩ = false := by assumption
      have h9 := bi_ff h8 h7
      have h10 := bg_f (f := f) (y := ⟨n, d⟩) c h7
      refine ⟨i + 1, by omega, by omega, ?_⟩
      repeat' (first | apply And.intro | exact True.intro | exact Lf.mk (by with_reducible rfl) | apply Lf.mk)
      all_goals first | rfl | exact h9 | exact h10 | (rw [Int.natCast_add]; rfl) | trace_state
    · exact biRaw_gd h1 (by omega) _ (by assumption)
    · have e : i = f.length := by omega
      unfold bfO; rw [e]
    · have e : i = f.length := by omega
      unfold bfG; rw [e]

noncomputable def s_spec_imBefore : Sig := ⟨219, [.list .pt, .val .rat], [.list 26 .rat, .val .bool], fun ((f : List Pt), (y : Rt), _) => ⟨[mapOk f = true, goodRt y = true], ((bfR f y).1, (bfR f y).2, ()), ()⟩⟩
theorem ok_spec_imBefore : GSpec Tryz.prog s_spec_imBefore := by
  refine fn_known tab_ok fol (((Known.nil.cons ok_spec_raCmp (by kernel_rfl)).cons ok_spec_imPut (by kernel_rfl)).cons ok_spec_imBack (by kernel_rfl)) (by decide) Tryz.func219 ?_
  rintro ⟨(f : List Pt), ⟨(n : Int), (d : Int)⟩, ⟨⟩⟩ ⟨hl, _⟩ ⟨h1, h2, _⟩
  obtain ⟨m1, m2, m3, m4, m5⟩ := mapOk_iff.1 h1
  have hpt : ∀ j, j < f.length → goodRt (getA zP f j).y = true := fun j hj => coord_good (ptOk_iff.1 (map_pt h1 hj)).2
  have hpx : ∀ j, j < f.length → goodRt (getA zP f j).x = true := fun j hj => coord_good (ptOk_iff.1 (map_pt h1 hj)).1
  refine ⟨Nat, fun i => ⟨[(7, .sc (.num .i64 ((i : Int) + 1))), (6, .sc (.own 7777777))], [100000, 3], [(7777777, .row 26 .rat (putsL [] (bsRaw f ⟨n, d⟩ i)))]⟩, fun i => i + 1 ≤ f.length ∧ biG f ⟨n, d⟩ (i + 1) = true, fun i => f.length - i, ⟨0, ⟨by omega, by rw [biG_succ, biG_zero, biT_zero]; rfl⟩, ?_⟩, ?_⟩
  · have e2 : putsL [] (bsRaw f ⟨n, d⟩ 0) = [] := by rw [bsRaw_zero, putsL_nil]
    repeat' (first | apply And.intro | exact True.intro | exact Lf.mk (by with_reducible rfl) | apply Lf.mk)
    all_goals first | rfl | exact e2.symm | exact e2 | (rw [e2]; rfl) | trace_state
  · rintro i ⟨g1, g2⟩
    have q1 := bsRaw_len f ⟨n, d⟩ i
    have q2 := putsL_len (bsRaw f ⟨n, d⟩ i) []
    have q3 : Gd (putsL [] (bsRaw f ⟨n, d⟩ i)) := putsL_good Gd.nil (bsRaw_gd h1 g1 g2)
    simp only [List.length_nil] at q2
    have hi : ((i : Int) + 1 - 1).toNat = i := by omega
    have hi2 : ((i : Int) + 1).toNat = i + 1 := by omega
    repeat' (first | with_reducible apply andAll_cons | with_reducible apply andAll_nil | (with_reducible apply Cf.mk; kernel_rfl) | apply And.intro | intro _ | exact True.intro | apply Lf.mk)
    all_goals (try simp only [hi, hi2] at *)
    all_goals (try simp only [Bool.not_eq_true', Bool.not_eq_false', Bool.not_not, decide_eq_true_eq, decide_eq_false_iff_not, beq_iff_eq, bne_iff_ne, beq_eq_false_iff_ne, bne_eq_false_iff_eq, ne_eq, Bool.and_eq_true, Bool.and_eq_false_iff, Bool.or_eq_true, Bool.or_eq_false_iff, Int.toNat_natCast, Nat.zero_add, Int.ofNat_lt, Int.ofNat_le, List.length_cons, List.length_nil, List.drop_zero, List.take_length] at *)
    all_goals first | omega | (exfalso; exact absurd ‹false = true› Bool.false_ne_true) | exact hpt _ (by omega) | exact hpx _ (by omega) | exact cmp_lo _ _ _ _ | exact cmp_hi _ _ _ _ | exact h2 | exact map_pt h1 (by omega) | exact m5 i (by omega) | skip
    all_goals first
      | exact q3 _ (by assumption)
      | exact putL_good q3 (hpx i (by omega)) _ (by assumption)
      | exact putL_good q3 (hpx (i + 1) (by omega)) _ (by assumption)
      | exact putL_good (putL_good q3 (hpx i (by omega))) (hpx (i + 1) (by omega)) _ (by assumption)
      | (refine Nat.le_trans (putL_len _ _) ?_; omega)
      | (refine Nat.le_trans (putL_len _ _) (Nat.le_trans (Nat.succ_le_succ (putL_len _ _)) ?_); omega)
      | exact bkP_good (f := f) (i := i) (by assumption)
      | (rw [bfR_f (bfG_f (i := i) (by omega) (crP_t (p := (getA zP f i)) (q := (getA zP f (i + 1))) (by assumption)) (by assumption))]; done)
      | skip
    all_goals first
      | (have hc := crP_f (p := (getA zP f i)) (q := (getA zP f (i + 1))) (y := ⟨n, d⟩) (by assumption)
         refine ⟨i + 1, ⟨by omega, bs_inv_f g2 hc⟩, by omega, ?_⟩
         repeat' (first | apply And.intro | exact True.intro | exact Lf.mk (by with_reducible rfl) | apply Lf.mk)
         all_goals first | rfl | (rw [Int.natCast_add]; rfl) | (rw [bs_step, hc, decide_eq_true (show cmpRt (getA zP f (i + 1)).y ⟨n, d⟩ = 0 from by assumption), decide_eq_true (show cmpRt (getA zP f i).y ⟨n, d⟩ = 0 from by assumption)]; rfl) | (rw [bs_step, hc, decide_eq_false (show ¬ (cmpRt (getA zP f (i + 1)).y ⟨n, d⟩ = 0) from by assumption), decide_eq_true (show cmpRt (getA zP f i).y ⟨n, d⟩ = 0 from by assumption)]; rfl) | (rw [bs_step, hc, decide_eq_true (show cmpRt (getA zP f (i + 1)).y ⟨n, d⟩ = 0 from by assumption), decide_eq_false (show ¬ (cmpRt (getA zP f i).y ⟨n, d⟩ = 0) from by assumption)]; rfl) | (rw [bs_step, hc, decide_eq_false (show ¬ (cmpRt (getA zP f (i + 1)).y ⟨n, d⟩ = 0) from by assumption), decide_eq_false (show ¬ (cmpRt (getA zP f i).y ⟨n, d⟩ = 0) from by assumption)]; rfl))
      | (have hc := crP_t (p := (getA zP f i)) (q := (getA zP f (i + 1))) (y := ⟨n, d⟩) (by assumption)
         refine ⟨i + 1, ⟨by omega, bs_inv_t g2 (by assumption)⟩, by omega, ?_⟩
         repeat' (first | apply And.intro | exact True.intro | exact Lf.mk (by with_reducible rfl) | apply Lf.mk)
         all_goals first | rfl | (rw [Int.natCast_add]; rfl) | (rw [bs_step, hc, decide_eq_true (show cmpRt (getA zP f (i + 1)).y ⟨n, d⟩ = 0 from by assumption), decide_eq_true (show cmpRt (getA zP f i).y ⟨n, d⟩ = 0 from by assumption)]; rfl) | (rw [bs_step, hc, decide_eq_false (show ¬ (cmpRt (getA zP f (i + 1)).y ⟨n, d⟩ = 0) from by assumption), decide_eq_true (show cmpRt (getA zP f i).y ⟨n, d⟩ = 0 from by assumption)]; rfl) | (rw [bs_step, hc, decide_eq_true (show cmpRt (getA zP f (i + 1)).y ⟨n, d⟩ = 0 from by assumption), decide_eq_false (show ¬ (cmpRt (getA zP f i).y ⟨n, d⟩ = 0) from by assumption)]; rfl) | (rw [bs_step, hc, decide_eq_false (show ¬ (cmpRt (getA zP f (i + 1)).y ⟨n, d⟩ = 0) from by assumption), decide_eq_false (show ¬ (cmpRt (getA zP f i).y ⟨n, d⟩ = 0) from by assumption)]; rfl))
      | skip
    all_goals (have e : i = f.length - 1 := by omega)
    all_goals (have e2 : i + 1 = f.length := by omega)
    all_goals (have hg : bfG f ⟨n, d⟩ = true := by unfold bfG; rw [← e2]; exact g2)
    all_goals rw [bfR_t hg]
    all_goals (rw [e]; exact bf_eq h1 h2 hg)

noncomputable def s_calc_bends : Sig := ⟨145, [.cell cT .bool, .list .pt, .list .pt], [.list 26 .rat], fun ((c : Bool), (f : List Pt), (h : List Pt), _) => ⟨[mapOk f = true, mapOk h = true], (bdO f h, ()), (c || !bdG f h, ())⟩⟩
theorem ok_calc_bends : GSpec Tryz.prog s_calc_bends := by
  refine fn_known tab_ok fol (((Known.nil.cons ok_impl_xsOf (by kernel_rfl)).cons ok_calc_before (by kernel_rfl)).cons ok_impl_rising (by kernel_rfl)) (by decide) Tryz.func145 ?_
  rintro ⟨(c : Bool), (f : List Pt), (h : List Pt), ⟨⟩⟩ ⟨hl, hl2, _⟩ ⟨h1, h2, _⟩
  have l1 := (mapOk_iff.1 h1).1
  have l2 := (mapOk_iff.1 h2).1
  have m1 : (f.map Pt.x).length = f.length := List.length_map ..
  have m2 : (h.map Pt.x).length = h.length := List.length_map ..
  repeat' (first | with_reducible apply andAll_cons | with_reducible apply andAll_nil | (with_reducible apply Cf.mk; kernel_rfl) | apply And.intro | intro _ | exact True.intro | apply Lf.mk)
  all_goals first | (simp only [List.drop_zero, List.take_length]; omega) | (simp only [List.drop_zero, List.take_length, m1, m2]; show _ * 16 ≤ _; omega) | skip
  refine ⟨Nat, fun i => ⟨[(17, .sc (.num .i64 i)), (7, .sc (.own 7777777))], [100001, 100002], [(100000, .box cT [.bool (c || !bdG_ f h i)]), (7777777, .row 26 .rat (bdRaw f h i))]⟩, fun i => i ≤ h.length, fun i => h.length - i, ⟨0, Nat.zero_le _, ?_⟩, ?_⟩
  · have e1 := bdG_zero f h
    have e2 := bdRaw_zero f h
    repeat' (first | apply And.intro | exact True.intro | exact Lf.mk (by with_reducible rfl) | apply Lf.mk)
    all_goals first | rfl | exact e2.symm | (rw [e1]; cases c <;> rfl) | (simp only [List.drop_zero, List.take_length]; exact e2.symm) | trace_state
  · rintro i g1
    have q1 := bdRaw_len l1.2 l2.2 i
    have q2 := @bfO_len f (getA zP h i).x l1.2
    have q3 := bdRaw_succ f h i
    have q4 := @bg_step c f h i
    repeat' (first | with_reducible apply andAll_cons | with_reducible apply andAll_nil | (with_reducible apply Cf.mk; kernel_rfl) | apply And.intro | intro _ | exact True.intro | apply Lf.mk)
    all_goals (try simp only [Bool.not_eq_true', Bool.not_eq_false', Bool.not_not, decide_eq_true_eq, decide_eq_false_iff_not, beq_iff_eq, bne_iff_ne, beq_eq_false_iff_ne, bne_eq_false_iff_eq, ne_eq, Bool.and_eq_true, Bool.and_eq_false_iff, Bool.or_eq_true, Bool.or_eq_false_iff, Int.toNat_natCast, Nat.zero_add, Int.ofNat_lt, Int.ofNat_le, List.length_cons, List.length_nil, List.drop_zero, List.take_length] at *)
    all_goals first | omega | exact h1 | exact pt_gd h2 (by omega) | (show (_ + List.length (bfO f (getA zP h i).x)) * 16 ≤ _; omega) | exact bdRaw_gd h1 h2 _ _ (by assumption) | skip
    · refine ⟨i + 1, by omega, by omega, ?_⟩
      repeat' (first | apply And.intro | exact True.intro | exact Lf.mk (by with_reducible rfl) | apply Lf.mk)
      all_goals first | rfl | exact q3.symm | exact q4 | (rw [Int.natCast_add]; rfl) | trace_state
    · have e : i = h.length := by omega
      unfold bdO; rw [e]
    · have e : i = h.length := by omega
      unfold bdG; rw [e]

noncomputable def s_spec_cjBreaks : Sig := ⟨208, [.list .pt, .list .pt], [.list 26 .rat, .val .bool], fun ((f : List Pt), (h : List Pt), _) => ⟨[mapOk f = true, mapOk h = true], ((bdR f h).1, (bdR f h).2, ()), ()⟩⟩
theorem mapx_next {f : List Pt} {i : Nat} (hi : i < f.length) : (f.take (i + 1)).map Pt.x = (f.take i).map Pt.x ++ [(getA zP f i).x] := by rw [take_next zP hi, List.map_append]; rfl
theorem mapx_gd {f : List Pt} (hf : mapOk f = true) (i : Nat) : Gd ((f.take i).map Pt.x) := fun x hx => by
  obtain ⟨p, hp, rfl⟩ := List.mem_map.1 hx
  exact coord_good (ptOk_iff.1 ((mapOk_iff.1 hf).2.1 p (List.mem_of_mem_take hp))).1
theorem ok_spec_cjBreaks : GSpec Tryz.prog s_spec_cjBreaks := by
  refine fn_known tab_ok fol ((Known.nil.cons ok_spec_imPut (by kernel_rfl)).cons ok_spec_imBefore (by kernel_rfl)) (by decide) Tryz.func208 ?_
  rintro ⟨(f : List Pt), (h : List Pt), ⟨⟩⟩ ⟨hl, hl2, _⟩ ⟨h1, h2, _⟩
  have l1 := (mapOk_iff.1 h1).1
  have l2 := (mapOk_iff.1 h2).1
  refine ⟨Nat, fun i => ⟨[(17, .sc (.num .i64 i)), (6, .sc (.own 7777777))], [100000, 100001], [(7777777, .row 26 .rat (putsL [] ((f.take i).map Pt.x)))]⟩, fun i => i ≤ f.length, fun i => f.length - i, ⟨0, Nat.zero_le _, ?_⟩, ?_⟩
  · have e2 : putsL [] ((f.take 0).map Pt.x) = [] := by rw [List.take_zero]; exact putsL_nil []
    repeat' (first | apply And.intro | exact True.intro | exact Lf.mk (by with_reducible rfl) | apply Lf.mk)
    all_goals first | rfl | exact e2.symm | exact e2 | (rw [e2]; rfl) | trace_state
  · rintro i g1
    have q1 := putsL_len ((f.take i).map Pt.x) []
    have q2 : ((f.take i).map Pt.x).length = i := by rw [List.length_map, List.length_take]; omega
    have q3 : Gd (putsL [] ((f.take i).map Pt.x)) := putsL_good Gd.nil (mapx_gd h1 i)
    simp only [List.length_nil] at q1
    repeat' (first | with_reducible apply andAll_cons | with_reducible apply andAll_nil | (with_reducible apply Cf.mk; kernel_rfl) | apply And.intro | intro _ | exact True.intro | apply Lf.mk)
    all_goals (try simp only [Bool.not_eq_true', Bool.not_eq_false', Bool.not_not, decide_eq_true_eq, decide_eq_false_iff_not, beq_iff_eq, bne_iff_ne, beq_eq_false_iff_ne, bne_eq_false_iff_eq, ne_eq, Bool.and_eq_true, Bool.and_eq_false_iff, Bool.or_eq_true, Bool.or_eq_false_iff, Int.toNat_natCast, Nat.zero_add, Int.ofNat_lt, Int.ofNat_le, List.length_cons, List.length_nil, List.drop_zero, List.take_length] at *)
    all_goals first | omega | exact q3 _ (by assumption) | exact pt_gd h1 (by omega) | skip
    · have e : putL (putsL [] ((f.take i).map Pt.x)) (getA zP f i).x = putsL [] ((f.take (i + 1)).map Pt.x) := by rw [mapx_next (by omega), putsL_one']
      refine ⟨i + 1, by omega, by omega, ?_⟩
      repeat' (first | apply And.intro | exact True.intro | exact Lf.mk (by with_reducible rfl) | apply Lf.mk)
      all_goals first | rfl | exact e | (rw [Int.natCast_add]; rfl) | trace_state
    · have e : i = f.length := by omega
      refine ⟨Nat, fun j => ⟨[(28, .sc (.num .i64 j)), (6, .sc (.own 7777778))], [100000, 100001], [(7777778, .row 26 .rat (putsL [] (bkRaw f h j)))]⟩, fun j => j ≤ h.length ∧ bdG_ f h j = true, fun j => h.length - j, ⟨0, ⟨Nat.zero_le _, bdG_zero f h⟩, ?_⟩, ?_⟩
      · have e2 : putsL [] (bkRaw f h 0) = putsL [] ((f.take i).map Pt.x) := by rw [bkRaw_zero, e, List.take_length]
        repeat' (first | apply And.intro | exact True.intro | exact Lf.mk (by with_reducible rfl) | apply Lf.mk)
        all_goals first | rfl | exact e2.symm | exact e2 | trace_state
      · rintro j ⟨k1, k2⟩
        have q4 := bkRaw_len (h := h) l1.2 j
        have q5 := putsL_len (bkRaw f h j) []
        have q6 : Gd (putsL [] (bkRaw f h j)) := putsL_good Gd.nil (bkRaw_gd h1 h2 j k1)
        simp only [List.length_nil] at q5
        repeat' (first | with_reducible apply andAll_cons | with_reducible apply andAll_nil | (with_reducible apply Cf.mk; kernel_rfl) | apply And.intro | intro _ | exact True.intro | apply Lf.mk)
        all_goals (try simp only [Bool.not_eq_true', Bool.not_eq_false', Bool.not_not, decide_eq_true_eq, decide_eq_false_iff_not, beq_iff_eq, bne_iff_ne, beq_eq_false_iff_ne, bne_eq_false_iff_eq, ne_eq, Bool.and_eq_true, Bool.and_eq_false_iff, Bool.or_eq_true, Bool.or_eq_false_iff, Int.toNat_natCast, Nat.zero_add, Int.ofNat_lt, Int.ofNat_le, List.length_cons, List.length_nil, List.drop_zero, List.take_length] at *)
        all_goals first | omega | exact q6 _ (by assumption) | exact pt_gd h2 (by omega) | exact h1 | (rw [bdR_f (bdG_f (i := j) (by omega) (by assumption))]; done) | skip
        · rename_i h5 h6
          have h7 := bfR_1 (f := f) (y := (getA zP h j).x) h6
          have q7 := @bfO_len f (getA zP h j).x l1.2
          refine ⟨Nat, fun k => ⟨[(47, .sc (.num .i64 k)), (6, .sc (.own 8888888))], [100000, 100001, 200400], [(8888888, .row 26 .rat (putsL [] ((bkRaw f h j ++ [(getA zP h j).x]) ++ ((bfR f (getA zP h j).x).1).take k)))]⟩, fun k => k ≤ (bfR f (getA zP h j).x).1.length, fun k => (bfR f (getA zP h j).x).1.length - k, ⟨0, Nat.zero_le _, ?_⟩, ?_⟩
          · have e2 : putsL [] ((bkRaw f h j ++ [(getA zP h j).x]) ++ ((bfR f (getA zP h j).x).1).take 0) = putL (putsL [] (bkRaw f h j)) (getA zP h j).x := by rw [List.take_zero, List.append_nil, putsL_one']
            repeat' (first | apply And.intro | exact True.intro | exact Lf.mk (by with_reducible rfl) | apply Lf.mk)
            all_goals first | rfl | exact e2.symm | exact e2 | trace_state
          · rintro k k3
            have q8 : Gd ((bkRaw f h j ++ [(getA zP h j).x]) ++ ((bfR f (getA zP h j).x).1).take k) := by
              refine ((bkRaw_gd h1 h2 j k1).app (Gd.one (pt_gd h2 (by omega)))).app fun x hx => ?_
              rw [h7] at hx
              exact bfO_gd h1 x (List.mem_of_mem_take hx)
            have q9 : ((bkRaw f h j ++ [(getA zP h j).x]) ++ ((bfR f (getA zP h j).x).1).take k).length ≤ 1000 := by
              rw [List.length_append, List.length_append, List.length_take, h7]; simp only [List.length_cons, List.length_nil]; omega
            have q10 := putsL_len ((bkRaw f h j ++ [(getA zP h j).x]) ++ ((bfR f (getA zP h j).x).1).take k) []
            have q11 : Gd (putsL [] ((bkRaw f h j ++ [(getA zP h j).x]) ++ ((bfR f (getA zP h j).x).1).take k)) := putsL_good Gd.nil q8
            have q12 : k < (bfR f (getA zP h j).x).1.length → goodRt (getA zR (bfR f (getA zP h j).x).1 k) = true := fun hk => bfO_gd h1 _ (by rw [← h7]; exact getA_mem _ hk)
            simp only [List.length_nil] at q10
            have q13 : (bfR f (getA zP h j).x).1.length ≤ 24 := by rw [h7]; exact q7
            repeat' (first | with_reducible apply andAll_cons | with_reducible apply andAll_nil | (with_reducible apply Cf.mk; kernel_rfl) | apply And.intro | intro _ | exact True.intro | apply Lf.mk)
            all_goals (try simp only [Bool.not_eq_true', Bool.not_eq_false', Bool.not_not, decide_eq_true_eq, decide_eq_false_iff_not, beq_iff_eq, bne_iff_ne, beq_eq_false_iff_ne, bne_eq_false_iff_eq, ne_eq, Bool.and_eq_true, Bool.and_eq_false_iff, Bool.or_eq_true, Bool.or_eq_false_iff, Int.toNat_natCast, Nat.zero_add, Int.ofNat_lt, Int.ofNat_le, List.length_cons, List.length_nil, List.drop_zero, List.take_length] at *)
            all_goals (try have k5 : k < (bfR f (getA zP h j).x).1.length := (by assumption))
            all_goals first | omega | exact q11 _ (by assumption) | exact q12 (by assumption) | skip
            · have k4 : k < (bfR f (getA zP h j).x).1.length := by assumption
              have e : putL (putsL [] ((bkRaw f h j ++ [(getA zP h j).x]) ++ ((bfR f (getA zP h j).x).1).take k)) (getA zR (bfR f (getA zP h j).x).1 k) = putsL [] ((bkRaw f h j ++ [(getA zP h j).x]) ++ ((bfR f (getA zP h j).x).1).take (k + 1)) := by
                rw [take_next zR k4, ← List.append_assoc, putsL_one']
              refine ⟨k + 1, Nat.succ_le_of_lt k4, Nat.sub_succ_lt_self _ _ k4, ?_⟩
              repeat' (first | apply And.intro | exact True.intro | exact Lf.mk (by with_reducible rfl) | apply Lf.mk)
              all_goals first | rfl | exact e | (rw [Int.natCast_add]; rfl) | trace_state
            · have k4 : ¬ k < (bfR f (getA zP h j).x).1.length := by assumption
              have e : putsL [] ((bkRaw f h j ++ [(getA zP h j).x]) ++ ((bfR f (getA zP h j).x).1).take k) = putsL [] (bkRaw f h (j + 1)) := by
                rw [List.take_of_length_le (by omega), h7, bkRaw_succ]
              refine ⟨j + 1, ⟨by omega, bdG_next k2 h6⟩, by omega, ?_⟩
              repeat' (first | apply And.intro | exact True.intro | exact Lf.mk (by with_reducible rfl) | apply Lf.mk)
              all_goals first | rfl | exact e | (rw [Int.natCast_add]; rfl) | trace_state
        all_goals (have e3 : j = h.length := by omega)
        all_goals (have e4 : bdG f h = true := by unfold bdG; rw [← e3]; exact k2)
        all_goals rw [bdR_t e4]
        all_goals (rw [e3]; exact bk_eq h1 h2)

noncomputable def s_calc_testPoints : Sig := ⟨211, [.cell cT .bool, .list .pt, .list .pt, .list .pt], [.list 26 .rat], fun ((c : Bool), (f : List Pt), (g : List Pt), (h : List Pt), _) => ⟨[mapOk f = true, mapOk g = true, chOk h = true], (tpO f g h, ()), (c || !tpG f g h, ())⟩⟩
theorem pt_unit {h : List Pt} (hh : mapOk h = true) {i : Nat} (hi : i < h.length) : unitRt (getA zP h i).x = true := coord_unit (ptOk_iff.1 (map_pt hh hi)).1
theorem ok_calc_testPoints : GSpec Tryz.prog s_calc_testPoints := by
  refine fn_known tab_ok fol (((Known.nil.cons ok_calc_bends (by kernel_rfl)).cons ok_calc_changeBack (by kernel_rfl)).cons ok_impl_rising (by kernel_rfl)) (by decide) Tryz.func211 ?_
  rintro ⟨(c : Bool), (f : List Pt), (g : List Pt), (h : List Pt), ⟨⟩⟩ ⟨hl, hl2, hl3, _⟩ ⟨h1, h2, h3, _⟩
  have h4 := (chOk_iff.1 h3).1
  have l2 := (mapOk_iff.1 h2).1
  have l3 := bdO_len h1 h4
  repeat' (first | with_reducible apply andAll_cons | with_reducible apply andAll_nil | (with_reducible apply Cf.mk; kernel_rfl) | apply And.intro | intro _ | exact True.intro | apply Lf.mk)
  all_goals first | exact h1 | exact h4 | (simp only [List.drop_zero, List.take_length]; exact h1) | (simp only [List.drop_zero, List.take_length]; exact h4) | skip
  refine ⟨Nat, fun i => ⟨[(18, .sc (.num .i64 i)), (9, .sc (.own 7777777))], [100002, 100003], [(100000, .box cT [.bool (c || !tpG_ f g h i)]), (7777777, .row 26 .rat (bdO f h ++ tpL g h i))]⟩, fun i => i ≤ g.length, fun i => g.length - i, ⟨0, Nat.zero_le _, ?_⟩, ?_⟩
  · have e1 : (c || !tpG_ f g h 0) = (c || !bdG f h) := by rw [tpG_zero]
    have e2 : bdO f h ++ tpL g h 0 = bdO f h := by rw [tpL_zero, List.append_nil]
    repeat' (first | apply And.intro | exact True.intro | exact Lf.mk (by with_reducible rfl) | apply Lf.mk)
    all_goals first | rfl | exact e2.symm | exact e1.symm | (simp only [List.drop_zero, List.take_length]; exact e2.symm) | (simp only [List.drop_zero, List.take_length]; exact e1.symm) | trace_state
  · rintro i g1
    have q1 := tpL_len g h i
    have q2 : (bdO f h ++ tpL g h i) ++ [chO h (getA zP g i).x] = bdO f h ++ tpL g h (i + 1) := by rw [tpL_succ, List.append_assoc]
    have q3 := @tg_step c f g h i
    repeat' (first | with_reducible apply andAll_cons | with_reducible apply andAll_nil | (with_reducible apply Cf.mk; kernel_rfl) | apply And.intro | intro _ | exact True.intro | apply Lf.mk)
    all_goals (try simp only [Bool.not_eq_true', Bool.not_eq_false', Bool.not_not, decide_eq_true_eq, decide_eq_false_iff_not, beq_iff_eq, bne_iff_ne, beq_eq_false_iff_ne, bne_eq_false_iff_eq, ne_eq, Bool.and_eq_true, Bool.and_eq_false_iff, Bool.or_eq_true, Bool.or_eq_false_iff, Int.toNat_natCast, Nat.zero_add, Int.ofNat_lt, Int.ofNat_le, List.length_cons, List.length_nil, List.drop_zero, List.take_length] at *)
    all_goals first | omega | exact h3 | exact pt_unit h2 (by omega) | (rw [List.length_append]; show _ * 16 ≤ _; omega) | (rw [List.length_append]; omega) | exact ((bdO_gd h1 h4).app (tpL_gd g h i)) _ (by assumption) | skip
    · refine ⟨i + 1, by omega, by omega, ?_⟩
      repeat' (first | apply And.intro | exact True.intro | exact Lf.mk (by with_reducible rfl) | apply Lf.mk)
      all_goals first | rfl | exact q2 | exact q3 | (rw [Int.natCast_add]; rfl) | trace_state
    · have e : i = g.length := by omega
      unfold tpO; rw [e]
    · have e : i = g.length := by omega
      unfold tpG; rw [e]

noncomputable def s_spec_cjTests : Sig := ⟨212, [.list .pt, .list .pt, .list .pt], [.list 26 .rat, .val .bool], fun ((f : List Pt), (g : List Pt), (h : List Pt), _) => ⟨[mapOk f = true, mapOk g = true, chOk h = true], ((tpR f g h).1, (tpR f g h).2, ()), ()⟩⟩
theorem ok_spec_cjTests : GSpec Tryz.prog s_spec_cjTests := by
  refine fn_known tab_ok fol (((Known.nil.cons ok_spec_cjBreaks (by kernel_rfl)).cons ok_spec_cjBack (by kernel_rfl)).cons ok_spec_imPut (by kernel_rfl)) (by decide) Tryz.func212 ?_
  rintro ⟨(f : List Pt), (g : List Pt), (h : List Pt), ⟨⟩⟩ ⟨hl, hl2, hl3, _⟩ ⟨h1, h2, h3, _⟩
  have h4 := (chOk_iff.1 h3).1
  have l2 := (mapOk_iff.1 h2).1
  have l3 := bdO_len h1 h4
  repeat' (first | with_reducible apply andAll_cons | with_reducible apply andAll_nil | (with_reducible apply Cf.mk; kernel_rfl) | apply And.intro | intro _ | exact True.intro | apply Lf.mk)
  all_goals (try simp only [Bool.not_eq_true', Bool.not_eq_false', Bool.not_not, decide_eq_true_eq, decide_eq_false_iff_not, beq_iff_eq, bne_iff_ne, beq_eq_false_iff_ne, bne_eq_false_iff_eq, ne_eq, Bool.and_eq_true, Bool.and_eq_false_iff, Bool.or_eq_true, Bool.or_eq_false_iff, Int.toNat_natCast, Nat.zero_add, Int.ofNat_lt, Int.ofNat_le, List.length_cons, List.length_nil, List.drop_zero, List.take_length] at *)
  all_goals first | exact h1 | exact h4 | (rw [tpR_f (tpG_f0 (by assumption))]; done) | skip
  rename_i h5
  have h6 := bdR_1 h5
  refine ⟨Nat, fun i => ⟨[(24, .sc (.num .i64 i)), (8, .sc (.own 7777777))], [100001, 100002], [(7777777, .row 26 .rat (putsL (bdO f h) (tpL g h i)))]⟩, fun i => i ≤ g.length ∧ tpG_ f g h i = true, fun i => g.length - i, ⟨0, ⟨Nat.zero_le _, by rw [tpG_zero, ← bdR_2]; exact h5⟩, ?_⟩, ?_⟩
  · have e2 : putsL (bdO f h) (tpL g h 0) = (bdR f h).1 := by rw [tpL_zero, putsL_nil, h6]
    repeat' (first | apply And.intro | exact True.intro | exact Lf.mk (by with_reducible rfl) | apply Lf.mk)
    all_goals first | rfl | exact e2.symm | exact e2 | trace_state
  · rintro i ⟨g1, g2⟩
    have q1 := tpL_len g h i
    have q2 := putsL_len (tpL g h i) (bdO f h)
    have q4 : Gd (putsL (bdO f h) (tpL g h i)) := putsL_good (bdO_gd h1 h4) (tpL_gd g h i)
    repeat' (first | with_reducible apply andAll_cons | with_reducible apply andAll_nil | (with_reducible apply Cf.mk; kernel_rfl) | apply And.intro | intro _ | exact True.intro | apply Lf.mk)
    all_goals (try simp only [Bool.not_eq_true', Bool.not_eq_false', Bool.not_not, decide_eq_true_eq, decide_eq_false_iff_not, beq_iff_eq, bne_iff_ne, beq_eq_false_iff_ne, bne_eq_false_iff_eq, ne_eq, Bool.and_eq_true, Bool.and_eq_false_iff, Bool.or_eq_true, Bool.or_eq_false_iff, Int.toNat_natCast, Nat.zero_add, Int.ofNat_lt, Int.ofNat_le, List.length_cons, List.length_nil, List.drop_zero, List.take_length] at *)
    all_goals first | omega | exact h3 | exact pt_unit h2 (by omega) | exact q4 _ (by assumption) | exact unit_good (chB_unit h3 (pt_unit h2 (by omega)) (by assumption)) | (rw [tpR_f (tpG_f (i := i) (by omega) (by assumption))]; done) | skip
    · rename_i h7 h8
      have h9 : (chB h (getA zP g i).x).2 = true := h8
      have e := @tpL_one f g h i h9
      refine ⟨i + 1, ⟨by omega, by rw [tpG_succ, g2, h9]; rfl⟩, by omega, ?_⟩
      repeat' (first | apply And.intro | exact True.intro | exact Lf.mk (by with_reducible rfl) | apply Lf.mk)
      all_goals first | rfl | exact e | (rw [Int.natCast_add]; rfl) | trace_state
    all_goals (have e : i = g.length := by omega)
    all_goals (have e2 : tpG f g h = true := by unfold tpG; rw [← e]; exact g2)
    all_goals rw [tpR_t e2]
    all_goals (rw [e]; exact tp_eq h1 h4)
noncomputable def s_spec_cjThree : Sig := ⟨148, [.list .pt, .list .pt, .list .pt], [.val .bool], fun ((f : List Pt), (g : List Pt), (h : List Pt), _) => ⟨[], (tpsOk f g h, ()), ()⟩⟩
theorem ok_spec_cjThree : GSpec Tryz.prog s_spec_cjThree := by
  refine fn_known tab_ok fol ((Known.nil.cons ok_spec_imGood (by kernel_rfl)).cons ok_spec_cjGood (by kernel_rfl)) (by decide) Tryz.func148 ?_
  rintro ⟨(f : List Pt), (g : List Pt), (h : List Pt), ⟨⟩⟩ - -
  repeat' (first | with_reducible apply andAll_cons | with_reducible apply andAll_nil | (with_reducible apply Cf.mk; kernel_rfl) | apply And.intro | intro _ | exact True.intro | apply Lf.mk)
  all_goals (try simp only [Bool.not_eq_true', Bool.not_eq_false', Bool.not_not, decide_eq_true_eq, decide_eq_false_iff_not, beq_iff_eq, bne_iff_ne, beq_eq_false_iff_ne, bne_eq_false_iff_eq, ne_eq, Bool.and_eq_true, Bool.and_eq_false_iff, Bool.or_eq_true, Bool.or_eq_false_iff, Int.toNat_natCast, Nat.zero_add, Int.ofNat_lt, Int.ofNat_le, List.length_cons, List.length_nil, List.drop_zero, List.take_length] at *)
  all_goals first | rfl | (simp [tpsOk, *]; done) | trace_state
noncomputable def s_impl_TestPoints : Sig := ⟨147, [.list .pt, .list .pt, .list .pt], [.list 26 .rat, .val .bool], fun ((f : List Pt), (g : List Pt), (h : List Pt), _) => ⟨[], ((tpsR f g h).1, (tpsR f g h).2, ()), ()⟩⟩
theorem ok_impl_TestPoints : GSpec Tryz.prog s_impl_TestPoints := by
  refine fn_known tab_ok fol (((Known.nil.cons ok_impl_isMap (by kernel_rfl)).cons ok_impl_isChange (by kernel_rfl)).cons ok_calc_testPoints (by kernel_rfl)) (by decide) Tryz.func147 ?_
  rintro ⟨(f : List Pt), (g : List Pt), (h : List Pt), ⟨⟩⟩ - -
  repeat' (first | with_reducible apply andAll_cons | with_reducible apply andAll_nil | (with_reducible apply Cf.mk; kernel_rfl) | apply And.intro | intro _ | exact True.intro | apply Lf.mk)
  all_goals (try simp only [Bool.not_eq_true', Bool.not_eq_false', Bool.not_not, decide_eq_true_eq, decide_eq_false_iff_not, beq_iff_eq, bne_iff_ne, beq_eq_false_iff_ne, bne_eq_false_iff_eq, ne_eq, Bool.and_eq_true, Bool.and_eq_false_iff, Bool.or_eq_true, Bool.or_eq_false_iff, Int.toNat_natCast, Nat.zero_add, Int.ofNat_lt, Int.ofNat_le, List.length_cons, List.length_nil, List.drop_zero, List.take_length] at *)
  all_goals first | assumption | (rw [tpsR_f1 (by assumption)]; done) | (rw [tpsR_f2 (by assumption)]; done) | (rw [tpsR_f3 (by assumption)]; done) | skip
  all_goals first
    | (have hh : tpG f g h = false := Or.resolve_left (by assumption) Bool.noConfusion
       rw [tpsR_t (by assumption) (by assumption) (by assumption), tpR_f hh])
    | (have hh : tpG f g h = true := And.right (by assumption)
       rw [tpsR_t (by assumption) (by assumption) (by assumption), tpR_t hh])
    | trace_state
end Go.Vx
namespace Go.Vx
open Go Go.Proofs
set_option maxRecDepth 100000
set_option linter.unusedSimpArgs false
set_option linter.unusedVariables false

noncomputable def s_spec_cjTwice : Sig := ⟨209, [.list .pt, .list .pt, .val .rat], [.val .rat, .val .bool], fun ((f : List Pt), (h : List Pt), (x : Rt), _) => ⟨[mapOk f = true, mapOk h = true, unitRt x = true], ((twR f h x).1, (twR f h x).2, ()), ()⟩⟩
theorem ok_spec_cjTwice : GSpec Tryz.prog s_spec_cjTwice := by
  refine fn_known tab_ok fol (Known.nil.cons ok_spec_imAt (by kernel_rfl)) (by decide) Tryz.func209 ?_
  rintro ⟨(f : List Pt), (h : List Pt), ⟨(n : Int), (d : Int)⟩, ⟨⟩⟩ - ⟨h1, h2, h3, _⟩
  repeat' (first | with_reducible apply andAll_cons | with_reducible apply andAll_nil | (with_reducible apply Cf.mk; kernel_rfl) | apply And.intro | intro _ | exact True.intro | apply Lf.mk)
  all_goals (try simp only [Bool.not_eq_true', Bool.not_eq_false', Bool.not_not, decide_eq_true_eq, decide_eq_false_iff_not, beq_iff_eq, bne_iff_ne, beq_eq_false_iff_ne, bne_eq_false_iff_eq, ne_eq, Bool.and_eq_true, Bool.and_eq_false_iff, Bool.or_eq_true, Bool.or_eq_false_iff, Int.toNat_natCast, Nat.zero_add, Int.ofNat_lt, Int.ofNat_le, List.length_cons, List.length_nil, List.drop_zero, List.take_length] at *)
  all_goals first | exact h1 | exact h2 | exact h3 | exact vR_unit h1 h3 (by assumption) | (rw [twR_f (by assumption)]; done) | (rw [twR_t (by assumption)]; rfl) | (rw [twR_t (by assumption)]; done) | trace_state
noncomputable def s_impl_IsConjugacy : Sig := ⟨65, [.list .pt, .list .pt, .list .pt], [.val .bool, .val .bool], fun ((f : List Pt), (g : List Pt), (h : List Pt), _) => ⟨[], ((cjRes f g h).1, (cjRes f g h).2, ()), ()⟩⟩
theorem ok_impl_IsConjugacy : GSpec Tryz.prog s_impl_IsConjugacy := by
  refine fn_known tab_ok fol ((Known.nil.cons ok_impl_TestPoints (by kernel_rfl)).cons ok_calc_value (by kernel_rfl)) (by decide) Tryz.func65 ?_
  rintro ⟨(f : List Pt), (g : List Pt), (h : List Pt), ⟨⟩⟩ ⟨hl, hl2, hl3, _⟩ -
  have q0 := tpsR_len f g h
  repeat' (first | with_reducible apply andAll_cons | with_reducible apply andAll_nil | (with_reducible apply Cf.mk; kernel_rfl) | apply And.intro | intro _ | exact True.intro | apply Lf.mk)
  all_goals (try simp only [Bool.not_eq_true', Bool.not_eq_false', Bool.not_not, decide_eq_true_eq, decide_eq_false_iff_not, beq_iff_eq, bne_iff_ne, beq_eq_false_iff_ne, bne_eq_false_iff_eq, ne_eq, Bool.and_eq_true, Bool.and_eq_false_iff, Bool.or_eq_true, Bool.or_eq_false_iff, Int.toNat_natCast, Nat.zero_add, Int.ofNat_lt, Int.ofNat_le, List.length_cons, List.length_nil, List.drop_zero, List.take_length] at *)
  all_goals first | (rw [tpsR_no (by assumption)]; done) | skip
  rename_i h0
  obtain ⟨h1, h2, h3⟩ := tpsR_ok h0
  obtain ⟨m1, m2, m3⟩ := tpsOk_iff.1 h1
  have m4 := (chOk_iff.1 m3).1
  have hu : ∀ x ∈ (tpsR f g h).1, unitRt x = true := fun x hx => by rw [h3] at hx; exact tp_unit m1 m2 m3 h2 hx
  refine ⟨Nat, fun i => ⟨[(25, .sc (.num .i64 i)), (11, .sc (.bool (icL f g h (tpsR f g h).1 i)))], [200180, 100000, 100001, 100002], [(10, .box cT [.bool (!icG f g h (tpsR f g h).1 i)])]⟩, fun i => i ≤ (tpsR f g h).1.length, fun i => (tpsR f g h).1.length - i, ⟨0, Nat.zero_le _, ?_⟩, ?_⟩
  · have e1 := icL_zero f g h (tpsR f g h).1
    have e2 := icG_zero f g h (tpsR f g h).1
    repeat' (first | apply And.intro | exact True.intro | exact Lf.mk (by with_reducible rfl) | apply Lf.mk)
    all_goals first | rfl | (rw [e1]; done) | (rw [e2]; rfl) | exact e1.symm | trace_state
  · rintro i g1
    have q1 : i < (tpsR f g h).1.length → unitRt (getA zR (tpsR f g h).1 i) = true := fun hi => hu _ (getA_mem _ hi)
    have q2 : i < (tpsR f g h).1.length → unitRt (vO f (getA zR (tpsR f g h).1 i)) = true := fun hi => vO_unit m1 (q1 hi)
    have q3 : i < (tpsR f g h).1.length → unitRt (vO h (getA zR (tpsR f g h).1 i)) = true := fun hi => vO_unit m4 (q1 hi)
    have q4 := @ic_flag f g h (tpsR f g h).1 i
    have q5 := icL_succ f g h (tpsR f g h).1 i
    repeat' (first | with_reducible apply andAll_cons | with_reducible apply andAll_nil | (with_reducible apply Cf.mk; kernel_rfl) | apply And.intro | intro _ | exact True.intro | apply Lf.mk)
    all_goals (try simp only [Bool.not_eq_true', Bool.not_eq_false', Bool.not_not, decide_eq_true_eq, decide_eq_false_iff_not, beq_iff_eq, bne_iff_ne, beq_eq_false_iff_ne, bne_eq_false_iff_eq, ne_eq, Bool.and_eq_true, Bool.and_eq_false_iff, Bool.or_eq_true, Bool.or_eq_false_iff, Int.toNat_natCast, Nat.zero_add, Int.ofNat_lt, Int.ofNat_le, List.length_cons, List.length_nil, List.drop_zero, List.take_length] at *)
    all_goals first | omega | exact m1 | exact m2 | exact m4 | exact q1 (by assumption) | exact q2 (by assumption) | exact q3 (by assumption) | skip
    · rename_i h5 h6
      have h7 : eqRt (twO f h (getA zR (tpsR f g h).1 i)) (twO h g (getA zR (tpsR f g h).1 i)) = true := by unfold twO; exact h6
      rw [h7] at q5
      refine ⟨i + 1, Nat.succ_le_of_lt h5, Nat.sub_succ_lt_self _ _ h5, ?_⟩
      repeat' (first | apply And.intro | exact True.intro | exact Lf.mk (by with_reducible rfl) | apply Lf.mk)
      all_goals first | rfl | exact q4 | (rw [Int.natCast_add]; rfl) | (rw [q5, Bool.and_true]; done) | (rw [q5, Bool.and_true]; unfold twO at h7; rw [show eqRt _ _ = true from h6]; rfl) | trace_state
    · rename_i h5 h6
      have h7 : eqRt (twO f h (getA zR (tpsR f g h).1 i)) (twO h g (getA zR (tpsR f g h).1 i)) = false := by unfold twO; exact h6
      rw [h7] at q5
      refine ⟨i + 1, Nat.succ_le_of_lt h5, Nat.sub_succ_lt_self _ _ h5, ?_⟩
      repeat' (first | apply And.intro | exact True.intro | exact Lf.mk (by with_reducible rfl) | apply Lf.mk)
      all_goals first | rfl | exact q4 | (rw [Int.natCast_add]; rfl) | (rw [q5, Bool.and_false]; done) | (rw [q5, Bool.and_false]; rw [show eqRt _ _ = false from h6]; rfl) | trace_state
    all_goals (have e : i = (tpsR f g h).1.length := Nat.le_antisymm g1 (Nat.not_lt.1 (by assumption)))
    all_goals (rw [cjRes_t h1, icR_t h2])
    all_goals first
      | (rw [icsR_f (show icG f g h (tpO f g h) (tpO f g h).length = false by rw [← h3, ← e]; assumption)]; done)
      | (rw [icsR_t (show icG f g h (tpO f g h) (tpO f g h).length = true by rw [← h3, ← e]; assumption), e, h3]; done)
      | (rw [icsR_t (show icG f g h (tpO f g h) (tpO f g h).length = true by rw [← h3, ← e]; assumption)]; done)
      | trace_state

noncomputable def s_spec_cjIs : Sig := ⟨149, [.list .pt, .list .pt, .list .pt], [.val .bool, .val .bool], fun ((f : List Pt), (g : List Pt), (h : List Pt), _) => ⟨[mapOk f = true, mapOk g = true, chOk h = true], ((icR f g h).1, (icR f g h).2, ()), ()⟩⟩
theorem ok_spec_cjIs : GSpec Tryz.prog s_spec_cjIs := by
  refine fn_known tab_ok fol ((Known.nil.cons ok_spec_cjTests (by kernel_rfl)).cons ok_spec_cjTwice (by kernel_rfl)) (by decide) Tryz.func149 ?_
  rintro ⟨(f : List Pt), (g : List Pt), (h : List Pt), ⟨⟩⟩ ⟨hl, hl2, hl3, _⟩ ⟨m1, m2, m3, _⟩
  have m4 := (chOk_iff.1 m3).1
  have q0 := tpO_len m1 m2 m4
  repeat' (first | with_reducible apply andAll_cons | with_reducible apply andAll_nil | (with_reducible apply Cf.mk; kernel_rfl) | apply And.intro | intro _ | exact True.intro | apply Lf.mk)
  all_goals (try simp only [Bool.not_eq_true', Bool.not_eq_false', Bool.not_not, decide_eq_true_eq, decide_eq_false_iff_not, beq_iff_eq, bne_iff_ne, beq_eq_false_iff_ne, bne_eq_false_iff_eq, ne_eq, Bool.and_eq_true, Bool.and_eq_false_iff, Bool.or_eq_true, Bool.or_eq_false_iff, Int.toNat_natCast, Nat.zero_add, Int.ofNat_lt, Int.ofNat_le, List.length_cons, List.length_nil, List.drop_zero, List.take_length] at *)
  all_goals first | exact m1 | exact m2 | exact m3 | (rw [icR_f (by rw [← tpR_2]; assumption)]; done) | skip
  rename_i h0
  have h2 : tpG f g h = true := by rw [← tpR_2]; exact h0
  have h3 : (tpR f g h).1 = tpO f g h := by rw [tpR_t h2]
  have q00 : (tpR f g h).1.length ≤ 324 := by rw [h3]; exact q0
  have hu : ∀ x ∈ (tpR f g h).1, unitRt x = true := fun x hx => by rw [h3] at hx; exact tp_unit m1 m2 m3 h2 hx
  refine ⟨Nat, fun i => ⟨[(28, .sc (.num .i64 i)), (10, .sc (.bool (icL f g h (tpR f g h).1 i)))], [200210, 100000, 100001, 100002], []⟩, fun i => i ≤ (tpR f g h).1.length ∧ icG f g h (tpR f g h).1 i = true, fun i => (tpR f g h).1.length - i, ⟨0, ⟨Nat.zero_le _, icG_zero ..⟩, ?_⟩, ?_⟩
  · have e1 := icL_zero f g h (tpR f g h).1
    repeat' (first | apply And.intro | exact True.intro | exact Lf.mk (by with_reducible rfl) | apply Lf.mk)
    all_goals first | rfl | (rw [e1]; done) | exact e1.symm | trace_state
  · rintro i ⟨g1, g2⟩
    have q1 : i < (tpR f g h).1.length → unitRt (getA zR (tpR f g h).1 i) = true := fun hi => hu _ (getA_mem _ hi)
    have q5 := icL_succ f g h (tpR f g h).1 i
    have q6 := icG_succ f g h (tpR f g h).1 i
    repeat' (first | with_reducible apply andAll_cons | with_reducible apply andAll_nil | (with_reducible apply Cf.mk; kernel_rfl) | apply And.intro | intro _ | exact True.intro | apply Lf.mk)
    all_goals (try simp only [Bool.not_eq_true', Bool.not_eq_false', Bool.not_not, decide_eq_true_eq, decide_eq_false_iff_not, beq_iff_eq, bne_iff_ne, beq_eq_false_iff_ne, bne_eq_false_iff_eq, ne_eq, Bool.and_eq_true, Bool.and_eq_false_iff, Bool.or_eq_true, Bool.or_eq_false_iff, Int.toNat_natCast, Nat.zero_add, Int.ofNat_lt, Int.ofNat_le, List.length_cons, List.length_nil, List.drop_zero, List.take_length] at *)
    all_goals first | omega | exact m1 | exact m2 | exact m4 | exact q1 (by assumption) | skip
    all_goals (try have hlt : i < (tpR f g h).1.length := (by assumption))
    all_goals first
      | (have hb : (twR h g (getA zR (tpR f g h).1 i)).2 = false := by assumption
         have hc : icG f g h (tpO f g h) (tpO f g h).length = false := by rw [← h3]; exact icG_f hlt (.inr hb)
         rw [icR_t h2, icsR_f hc])
      | (have hb : (twR f h (getA zR (tpR f g h).1 i)).2 = false := by assumption
         have hc : icG f g h (tpO f g h) (tpO f g h).length = false := by rw [← h3]; exact icG_f hlt (.inl hb)
         rw [icR_t h2, icsR_f hc])
      | skip
    · have a1 : (twR f h (getA zR (tpR f g h).1 i)).2 = true := by assumption
      have a2 : (twR h g (getA zR (tpR f g h).1 i)).2 = true := by assumption
      have a3 : icL f g h (tpR f g h).1 i = true := by assumption
      rw [a3, twO_t a1, twO_t a2, Bool.true_and] at q5
      refine ⟨i + 1, ⟨Nat.succ_le_of_lt hlt, by rw [q6, g2, a1, a2]; rfl⟩, Nat.sub_succ_lt_self _ _ hlt, ?_⟩
      repeat' (first | apply And.intro | exact True.intro | exact Lf.mk (by with_reducible rfl) | apply Lf.mk)
      all_goals first | rfl | (rw [Int.natCast_add]; rfl) | exact q5.symm | (rw [a3]; exact q5.symm) | trace_state
    · have a1 : (twR f h (getA zR (tpR f g h).1 i)).2 = true := by assumption
      have a2 : (twR h g (getA zR (tpR f g h).1 i)).2 = true := by assumption
      have a3 : icL f g h (tpR f g h).1 i = false := by assumption
      rw [a3, Bool.false_and] at q5
      refine ⟨i + 1, ⟨Nat.succ_le_of_lt hlt, by rw [q6, g2, a1, a2]; rfl⟩, Nat.sub_succ_lt_self _ _ hlt, ?_⟩
      repeat' (first | apply And.intro | exact True.intro | exact Lf.mk (by with_reducible rfl) | apply Lf.mk)
      all_goals first | rfl | (rw [Int.natCast_add]; rfl) | exact q5.symm | (rw [a3]; exact q5.symm) | trace_state
    all_goals (have e : i = (tpR f g h).1.length := Nat.le_antisymm g1 (Nat.not_lt.1 (by assumption)))
    all_goals (have hc : icG f g h (tpO f g h) (tpO f g h).length = true := by rw [← h3, ← e]; exact g2)
    all_goals rw [icR_t h2, icsR_t hc]
    all_goals first | rfl | (rw [e, h3]; done) | trace_state
noncomputable def s_spec_IsConjugacy : Sig := ⟨66, [.list .pt, .list .pt, .list .pt], [.val .bool, .val .bool], fun ((f : List Pt), (g : List Pt), (h : List Pt), _) => ⟨[], ((cjRes f g h).1, (cjRes f g h).2, ()), ()⟩⟩
theorem ok_spec_IsConjugacy : GSpec Tryz.prog s_spec_IsConjugacy := by
  refine fn_known tab_ok fol ((Known.nil.cons ok_spec_cjThree (by kernel_rfl)).cons ok_spec_cjIs (by kernel_rfl)) (by decide) Tryz.func66 ?_
  rintro ⟨(f : List Pt), (g : List Pt), (h : List Pt), ⟨⟩⟩ - -
  repeat' (first | with_reducible apply andAll_cons | with_reducible apply andAll_nil | (with_reducible apply Cf.mk; kernel_rfl) | apply And.intro | intro _ | exact True.intro | apply Lf.mk)
  all_goals (try simp only [Bool.not_eq_true', Bool.not_eq_false', Bool.not_not, decide_eq_true_eq, decide_eq_false_iff_not, beq_iff_eq, bne_iff_ne, beq_eq_false_iff_ne, bne_eq_false_iff_eq, ne_eq, Bool.and_eq_true, Bool.and_eq_false_iff, Bool.or_eq_true, Bool.or_eq_false_iff, Int.toNat_natCast, Nat.zero_add, Int.ofNat_lt, Int.ofNat_le, List.length_cons, List.length_nil, List.drop_zero, List.take_length] at *)
  all_goals first | exact (tpsOk_iff.1 (by assumption)).1 | exact (tpsOk_iff.1 (by assumption)).2.1 | exact (tpsOk_iff.1 (by assumption)).2.2 | (rw [cjRes_f (by assumption)]; done) | (rw [cjRes_t (by assumption)]; done) | trace_state
end Go.Vx
