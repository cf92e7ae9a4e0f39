/- Farey lists: the program's and the reference's. -/
import Derived.Test.YtfnfbomnijlhcaaVxRs
namespace Go.Vx
open Go Go.Proofs
set_option maxRecDepth 100000
set_option linter.unusedSimpArgs false
set_option linter.unusedVariables false

@[irreducible] noncomputable def fRow (den : Nat) (k : Nat) : List Rt := (List.range k).map fun (j : Nat) => (lowRt (j : Int) (den : Int)).1
theorem fRow_zero (den : Nat) : fRow den 0 = [] := by unfold fRow; rfl
theorem fRow_succ (den k : Nat) : fRow den (k + 1) = fRow den k ++ [(lowRt (k : Int) (den : Int)).1] := by unfold fRow; rw [List.range_succ, List.map_append]; rfl
theorem fRow_len (den k : Nat) : (fRow den k).length = k := by unfold fRow; simp
noncomputable def fRaw_ : Nat → List Rt
  | 0 => []
  | n + 1 => fRaw_ n ++ fRow (n + 1) (n + 2)
@[irreducible] noncomputable def fRaw (n : Nat) : List Rt := fRaw_ n
theorem fRaw_zero : fRaw 0 = [] := by unfold fRaw; rfl
theorem fRaw_succ (n : Nat) : fRaw (n + 1) = fRaw n ++ fRow (n + 1) (n + 2) := by unfold fRaw; rfl
theorem fRaw_len : ∀ n : Nat, n ≤ 20 → (fRaw n).length ≤ 22 * n
  | 0, _ => by rw [fRaw_zero]; simp
  | n + 1, h => by
    have := fRaw_len n (by omega)
    rw [fRaw_succ, List.length_append, fRow_len]; omega
theorem low_ok {j d : Nat} (h : 1 ≤ d) (h2 : d ≤ 21) (h3 : j ≤ 21) : (lowRt (j : Int) (d : Int)).2 = true := low_small (by omega) (by omega) (by omega)
theorem low_gd {j d : Nat} (h : 1 ≤ d) (h2 : d ≤ 21) (h3 : j ≤ 21) : goodRt (lowRt (j : Int) (d : Int)).1 = true := lowRt_good1 (low_ok h h2 h3)
theorem fRow_gd {d k : Nat} (h : 1 ≤ d) (h2 : d ≤ 21) (h3 : k ≤ 22) : Gd (fRow d k) := by
  intro x hx
  unfold fRow at hx
  obtain ⟨j, h4, rfl⟩ := List.mem_map.1 hx
  exact low_gd h h2 (by have := List.mem_range.1 h4; omega)
theorem Gd.app {l m : List Rt} (h1 : Gd l) (h2 : Gd m) : Gd (l ++ m) := fun x hx => by
  rcases List.mem_append.1 hx with h | h
  · exact h1 x h
  · exact h2 x h
theorem fRaw_gd : ∀ {n : Nat}, n ≤ 20 → Gd (fRaw n)
  | 0, _ => by rw [fRaw_zero]; exact Gd.nil
  | n + 1, h => by rw [fRaw_succ]; exact (fRaw_gd (by omega)).app (fRow_gd (by omega) (by omega) (by omega))
@[irreducible] noncomputable def faL (n : Int) : List Rt := putsL [] (fRaw n.toNat)
theorem faL_gd {n : Int} (h : n ≤ 20) : Gd (faL n) := by unfold faL; exact putsL_good Gd.nil (fRaw_gd (by omega))
theorem faL_ss {n : Int} (h : n ≤ 20) : SS (faL n) := by unfold faL; exact putsL_ss Gd.nil (fRaw_gd (by omega)) SS.nil
theorem faL_len {n : Int} (h : n ≤ 20) : (faL n).length ≤ 440 := by
  unfold faL
  have := putsL_len (fRaw n.toNat) []
  have := fRaw_len n.toNat (by omega)
  simp only [List.length_nil] at *
  omega

noncomputable def s_impl_isOrder : Sig := ⟨26, [.val NI], [.val .bool], fun ((n : Int), _) => ⟨[], (inB n 1 20, ()), ()⟩⟩
theorem ok_impl_isOrder : GSpec Try.prog s_impl_isOrder := by
  refine fn_known tab_ok fol (Known.nil.cons ok_impl_within (by kernel_rfl)) (by decide) Try.func26 ?_
  rintro ⟨(n : Int), ⟨⟩⟩ hl _
  repeat' (first | with_reducible apply andAll_cons | with_reducible apply andAll_nil | (with_reducible apply Cf.mk; kernel_rfl) | apply And.intro | intro _ | exact True.intro | apply Lf.mk)
  all_goals rfl
noncomputable def s_spec_faOrder : Sig := ⟨28, [.val NI], [.val .bool], fun ((n : Int), _) => ⟨[], (inB n 1 20, ()), ()⟩⟩
theorem ok_spec_faOrder : GSpec Try.prog s_spec_faOrder := by
  refine fn_known tab_ok fol (Known.nil.cons ok_spec_l1In (by kernel_rfl)) (by decide) Try.func28 ?_
  rintro ⟨(n : Int), ⟨⟩⟩ hl _
  repeat' (first | with_reducible apply andAll_cons | with_reducible apply andAll_nil | (with_reducible apply Cf.mk; kernel_rfl) | apply And.intro | intro _ | exact True.intro | apply Lf.mk)
  all_goals rfl

noncomputable def s_impl_farey : Sig := ⟨27, [.val NI], [.list 28 .rat], fun ((n : Int), _) => ⟨[1 ≤ n, n ≤ 20], (faL n, ()), ()⟩⟩
theorem ok_impl_farey : GSpec Try.prog s_impl_farey := by
  refine fn_known tab_ok fol ((Known.nil.cons ok_impl_lowest (by kernel_rfl)).cons ok_impl_rising (by kernel_rfl)) (by decide) Try.func27 ?_
  rintro ⟨(n : Int), ⟨⟩⟩ hl ⟨h1, h2, _⟩
  refine ⟨Nat, fun i => ⟨[(4, .sc (.num .i64 ((i : Int) + 1))), (3, .sc (.own 7777777))], [], [(7777777, .row 28 .rat (fRaw i))]⟩, fun i => (i : Int) ≤ n, fun i => n.toNat - i, ⟨0, by omega, ?_⟩, ?_⟩
  · have e := fRaw_zero
    repeat' (first | apply And.intro | exact True.intro | exact Lf.mk (by with_reducible rfl) | apply Lf.mk)
    all_goals first | rfl | exact e.symm | exact e | (simp only [e]; rfl) | (dsimp only; rw [e]) | trace_state
  · rintro i g1
    have g2 := fRaw_len i (by omega)
    repeat' (first | with_reducible apply andAll_cons | with_reducible apply andAll_nil | (with_reducible apply Cf.mk; kernel_rfl) | apply And.intro | intro _ | exact True.intro | apply Lf.mk)
    all_goals (try simp only [Bool.not_eq_true', Bool.not_eq_false', Bool.not_not, decide_eq_true_eq, decide_eq_false_iff_not, beq_iff_eq, bne_iff_ne, beq_eq_false_iff_ne, bne_eq_false_iff_eq, ne_eq, Bool.and_eq_true, Bool.and_eq_false_iff, Bool.or_eq_true, Bool.or_eq_false_iff, Int.toNat_natCast, Nat.zero_add, Int.ofNat_lt, Int.ofNat_le, List.length_cons, List.length_nil, List.drop_zero, List.take_length] at *)
    all_goals first | omega | skip
    · refine ⟨Nat, fun k => ⟨[(15, .sc (.num .i64 (k : Int))), (3, .sc (.own 8888888))], [], [(8888888, .row 28 .rat (fRaw i ++ fRow (i + 1) k))]⟩, fun k => k ≤ i + 2, fun k => i + 2 - k, ⟨0, by omega, ?_⟩, ?_⟩
      · have e := fRow_zero (i + 1)
        repeat' (first | apply And.intro | exact True.intro | exact Lf.mk (by with_reducible rfl) | apply Lf.mk)
        all_goals first | rfl | (rw [e, List.append_nil]) | trace_state
      · rintro k q1
        have q2 := fRow_len (i + 1) k
        have q3 := fRow_succ (i + 1) k
        have q4 := fRaw_succ i
        repeat' (first | with_reducible apply andAll_cons | with_reducible apply andAll_nil | (with_reducible apply Cf.mk; kernel_rfl) | apply And.intro | intro _ | exact True.intro | apply Lf.mk)
        all_goals (try simp only [Bool.not_eq_true', Bool.not_eq_false', Bool.not_not, decide_eq_true_eq, decide_eq_false_iff_not, beq_iff_eq, bne_iff_ne, beq_eq_false_iff_ne, bne_eq_false_iff_eq, ne_eq, Bool.and_eq_true, Bool.and_eq_false_iff, Bool.or_eq_true, Bool.or_eq_false_iff, Int.toNat_natCast, Nat.zero_add, Int.ofNat_lt, Int.ofNat_le, List.length_cons, List.length_nil, List.drop_zero, List.take_length] at *)
        all_goals first | omega | skip
        · rw [List.length_append]; show _ * 16 ≤ _; omega
        · refine ⟨k + 1, by omega, by omega, ?_⟩
          repeat' (first | apply And.intro | exact True.intro | exact Lf.mk (by with_reducible rfl) | apply Lf.mk)
          all_goals first | rfl | (rw [q3, List.append_assoc]; rfl) | trace_state
        · refine ⟨i + 1, by omega, by omega, ?_⟩
          have e : k = i + 2 := by omega
          rw [e]
          repeat' (first | apply And.intro | exact True.intro | exact Lf.mk (by with_reducible rfl) | apply Lf.mk)
          all_goals first | rfl | exact q4.symm | trace_state
    · rename_i h3 h4; exact fRaw_gd (by omega) _ h3
    · have e : n.toNat = i := by omega
      unfold faL
      rw [e]


theorem putsL_one (l m : List Rt) (x : Rt) : putsL l (m ++ [x]) = putL (putsL l m) x := by rw [putsL_append, putsL_cons, putsL_nil]
noncomputable def s_spec_faList : Sig := ⟨29, [.val NI], [.list 28 .rat], fun ((n : Int), _) => ⟨[1 ≤ n, n ≤ 20], (faL n, ()), ()⟩⟩
theorem ok_spec_faList : GSpec Try.prog s_spec_faList := by
  refine fn_known tab_ok fol ((Known.nil.cons ok_spec_raMake (by kernel_rfl)).cons ok_spec_imPut (by kernel_rfl)) (by decide) Try.func29 ?_
  rintro ⟨(n : Int), ⟨⟩⟩ hl ⟨h1, h2, _⟩
  refine ⟨Nat, fun i => ⟨[(4, .sc (.num .i64 ((i : Int) + 1))), (3, .sc (.own 7777777))], [], [(7777777, .row 28 .rat (putsL [] (fRaw i)))]⟩, fun i => (i : Int) ≤ n, fun i => n.toNat - i, ⟨0, by omega, ?_⟩, ?_⟩
  · have e : putsL [] (fRaw 0) = [] := by rw [fRaw_zero, putsL_nil]
    repeat' (first | apply And.intro | exact True.intro | exact Lf.mk (by with_reducible rfl) | apply Lf.mk)
    all_goals first | rfl | exact e.symm | exact e | (rw [e]; rfl) | trace_state
  · rintro i g1
    have g2 := fRaw_len i (by omega)
    repeat' (first | with_reducible apply andAll_cons | with_reducible apply andAll_nil | (with_reducible apply Cf.mk; kernel_rfl) | apply And.intro | intro _ | exact True.intro | apply Lf.mk)
    all_goals (try simp only [Bool.not_eq_true', Bool.not_eq_false', Bool.not_not, decide_eq_true_eq, decide_eq_false_iff_not, beq_iff_eq, bne_iff_ne, beq_eq_false_iff_ne, bne_eq_false_iff_eq, ne_eq, Bool.and_eq_true, Bool.and_eq_false_iff, Bool.or_eq_true, Bool.or_eq_false_iff, Int.toNat_natCast, Nat.zero_add, Int.ofNat_lt, Int.ofNat_le, List.length_cons, List.length_nil, List.drop_zero, List.take_length] at *)
    all_goals first | omega | skip
    · refine ⟨Nat, fun k => ⟨[(5, .sc (.num .i64 (k : Int))), (3, .sc (.own 8888888))], [], [(8888888, .row 28 .rat (putsL [] (fRaw i ++ fRow (i + 1) k)))]⟩, fun k => k ≤ i + 2, fun k => i + 2 - k, ⟨0, by omega, ?_⟩, ?_⟩
      · have e : putsL [] (fRaw i ++ fRow (i + 1) 0) = putsL [] (fRaw i) := by rw [fRow_zero, List.append_nil]
        repeat' (first | apply And.intro | exact True.intro | exact Lf.mk (by with_reducible rfl) | apply Lf.mk)
        all_goals first | rfl | exact e | exact e.symm | trace_state
      · rintro k q1
        have q3 : putsL [] (fRaw i ++ fRow (i + 1) (k + 1)) = putL (putsL [] (fRaw i ++ fRow (i + 1) k)) (lowRt (k : Int) ((i + 1 : Nat) : Int)).1 := by rw [fRow_succ, ← List.append_assoc, putsL_one]
        have q4 := fRaw_succ i
        have q5 : Gd (putsL [] (fRaw i ++ fRow (i + 1) k)) := putsL_good Gd.nil ((fRaw_gd (by omega)).app (fRow_gd (by omega) (by omega) (by omega)))
        have q6 : (putsL [] (fRaw i ++ fRow (i + 1) k)).length ≤ 100000 := by
          have := putsL_len (fRaw i ++ fRow (i + 1) k) []
          rw [List.length_append, fRow_len] at this
          simp only [List.length_nil] at this
          omega
        repeat' (first | with_reducible apply andAll_cons | with_reducible apply andAll_nil | (with_reducible apply Cf.mk; kernel_rfl) | apply And.intro | intro _ | exact True.intro | apply Lf.mk)
        all_goals (try simp only [Bool.not_eq_true', Bool.not_eq_false', Bool.not_not, decide_eq_true_eq, decide_eq_false_iff_not, beq_iff_eq, bne_iff_ne, beq_eq_false_iff_ne, bne_eq_false_iff_eq, ne_eq, Bool.and_eq_true, Bool.and_eq_false_iff, Bool.or_eq_true, Bool.or_eq_false_iff, Int.toNat_natCast, Nat.zero_add, Int.ofNat_lt, Int.ofNat_le, List.length_cons, List.length_nil, List.drop_zero, List.take_length] at *)
        all_goals first | omega | exact q5 _ (by assumption) | exact q6 | skip
        · exact low_gd (j := k) (d := i + 1) (by omega) (by omega) (by omega)
        · refine ⟨k + 1, by omega, by omega, ?_⟩
          repeat' (first | apply And.intro | exact True.intro | exact Lf.mk (by with_reducible rfl) | apply Lf.mk)
          all_goals first | rfl | exact q3.symm | trace_state
        · refine ⟨i + 1, by omega, by omega, ?_⟩
          have e : k = i + 2 := by omega
          rw [e]
          repeat' (first | apply And.intro | exact True.intro | exact Lf.mk (by with_reducible rfl) | apply Lf.mk)
          all_goals first | rfl | (rw [q4]; done) | (rw [q4]; rfl) | trace_state
    · unfold faL
      have e : n.toNat = i := by omega
      rw [e]
noncomputable def flRes (n : Int) : List Rt × Bool := match inB n 1 20 with
  | true => (faL n, true)
  | false => ([], false)
theorem flRes_t {n : Int} (h : inB n 1 20 = true) : flRes n = (faL n, true) := by unfold flRes; rw [h]
theorem flRes_f {n : Int} (h : inB n 1 20 = false) : flRes n = ([], false) := by unfold flRes; rw [h]
theorem inB_1 {n lo hi : Int} (h : inB n lo hi = true) : lo ≤ n := (of_decide_eq_true h).1
theorem inB_2 {n lo hi : Int} (h : inB n lo hi = true) : n ≤ hi := (of_decide_eq_true h).2
theorem flRes_len (n : Int) : (flRes n).1.length ≤ 440 := by
  cases h : inB n 1 20
  · rw [flRes_f h]; simp
  · rw [flRes_t h]; exact faL_len (inB_2 h)
noncomputable def s_impl_FareyList : Sig := ⟨5, [.val NI], [.list 28 .rat, .val .bool], fun ((n : Int), _) => ⟨[], ((flRes n).1, (flRes n).2, ()), ()⟩⟩
theorem ok_impl_FareyList : GSpec Try.prog s_impl_FareyList := by
  refine fn_known tab_ok fol ((Known.nil.cons ok_impl_isOrder (by kernel_rfl)).cons ok_impl_farey (by kernel_rfl)) (by decide) Try.func5 ?_
  rintro ⟨(n : Int), ⟨⟩⟩ hl _
  repeat' (first | with_reducible apply andAll_cons | with_reducible apply andAll_nil | (with_reducible apply Cf.mk; kernel_rfl) | apply And.intro | intro _ | exact True.intro | apply Lf.mk)
  all_goals (try simp only [Bool.not_eq_true', Bool.not_eq_false', Bool.not_not, decide_eq_true_eq, decide_eq_false_iff_not, beq_iff_eq, bne_iff_ne, beq_eq_false_iff_ne, bne_eq_false_iff_eq, ne_eq, Bool.and_eq_true, Bool.and_eq_false_iff, Bool.or_eq_true, Bool.or_eq_false_iff, Int.toNat_natCast, Nat.zero_add, Int.ofNat_lt, Int.ofNat_le, List.length_cons, List.length_nil, List.drop_zero, List.take_length] at *)
  all_goals first | exact inB_1 (by assumption) | exact inB_2 (by assumption) | (rw [flRes_t (by assumption)]; done) | (rw [flRes_f (by assumption)]; done) | trace_state
noncomputable def s_spec_FareyList : Sig := ⟨6, [.val NI], [.list 28 .rat, .val .bool], fun ((n : Int), _) => ⟨[], ((flRes n).1, (flRes n).2, ()), ()⟩⟩
theorem ok_spec_FareyList : GSpec Try.prog s_spec_FareyList := by
  refine fn_known tab_ok fol ((Known.nil.cons ok_spec_faOrder (by kernel_rfl)).cons ok_spec_faList (by kernel_rfl)) (by decide) Try.func6 ?_
  rintro ⟨(n : Int), ⟨⟩⟩ hl _
  repeat' (first | with_reducible apply andAll_cons | with_reducible apply andAll_nil | (with_reducible apply Cf.mk; kernel_rfl) | apply And.intro | intro _ | exact True.intro | apply Lf.mk)
  all_goals (try simp only [Bool.not_eq_true', Bool.not_eq_false', Bool.not_not, decide_eq_true_eq, decide_eq_false_iff_not, beq_iff_eq, bne_iff_ne, beq_eq_false_iff_ne, bne_eq_false_iff_eq, ne_eq, Bool.and_eq_true, Bool.and_eq_false_iff, Bool.or_eq_true, Bool.or_eq_false_iff, Int.toNat_natCast, Nat.zero_add, Int.ofNat_lt, Int.ofNat_le, List.length_cons, List.length_nil, List.drop_zero, List.take_length] at *)
  all_goals first | exact inB_1 (by assumption) | exact inB_2 (by assumption) | (rw [flRes_t (by assumption)]; done) | (rw [flRes_f (by assumption)]; done) | trace_state

noncomputable def s_spec_orAt : Sig := ⟨38, [.list .rat, .val .rat], [.val NI], fun ((l : List Rt), (x : Rt), _) => ⟨[], (idxF (fun y => eqRt x y) l, ()), ()⟩⟩
theorem ok_spec_orAt : GSpec Try.prog s_spec_orAt := by
  refine fn_known tab_ok fol Known.nil (by decide) Try.func38 ?_
  rintro ⟨(l : List Rt), (x : Rt), ⟨⟩⟩ ⟨hl, _⟩ _
  have hl : l.length ≤ 9223372036854775807 := hl
  refine ⟨Nat, fun i => ⟨[(9, .sc (.num .i64 i))], [100000, 3], []⟩, fun i => i ≤ l.length ∧ (l.take i).any (fun y => eqRt x y) = false, fun i => l.length - i, ⟨0, ⟨Nat.zero_le _, rfl⟩, ?_⟩, ?_⟩
  · repeat' (first | apply And.intro | exact True.intro | exact Lf.mk (by with_reducible rfl) | apply Lf.mk)
    all_goals rfl
  · rintro i ⟨g1, g2⟩
    repeat' (first | with_reducible apply andAll_cons | with_reducible apply andAll_nil | (with_reducible apply Cf.mk; kernel_rfl) | apply And.intro | intro _ | exact True.intro | apply Lf.mk)
    all_goals (try simp only [Bool.not_eq_true', Bool.not_eq_false', Bool.not_not, decide_eq_true_eq, decide_eq_false_iff_not, beq_iff_eq, bne_iff_ne, beq_eq_false_iff_ne, bne_eq_false_iff_eq, ne_eq, Bool.and_eq_true, Bool.and_eq_false_iff, Bool.or_eq_true, Bool.or_eq_false_iff, Int.toNat_natCast, Nat.zero_add, Int.ofNat_lt, Int.ofNat_le, List.length_cons, List.length_nil, List.drop_zero, List.take_length] at *)
    all_goals first | omega | skip
    · exact (idxF_hit zR (by assumption) g2 (by assumption)).symm
    · refine ⟨i + 1, ⟨by omega, take_all_false zR (by assumption) g2 (by assumption)⟩, by omega, ?_⟩
      repeat' (first | apply And.intro | exact True.intro | exact Lf.mk (by with_reducible rfl) | apply Lf.mk)
      all_goals (rw [Int.natCast_add]; rfl)
    · rename_i h3
      rw [List.take_of_length_le (by omega)] at g2
      exact (idxF_none g2).symm
def fnAt (l : List Rt) (x : Rt) : Int := idxF (fun y => eqRt x y) l
noncomputable def fnRes (x : Rt) (n : Int) : Rt × Rt × Bool := match goodRt x && inB n 1 20 && !(decide (fnAt (faL n) x < 1) || decide (fnAt (faL n) x = ((faL n).length : Int) - 1)) with
  | true => (getA zR (faL n) (fnAt (faL n) x - 1).toNat, getA zR (faL n) (fnAt (faL n) x + 1).toNat, true)
  | false => (⟨0, 0⟩, ⟨0, 0⟩, false)
noncomputable def s_impl_FareyNeighbours : Sig := ⟨8, [.val .rat, .val NI], [.val .rat, .val .rat, .val .bool], fun ((x : Rt), (n : Int), _) => ⟨[], ((fnRes x n).1, (fnRes x n).2.1, (fnRes x n).2.2, ()), ()⟩⟩
theorem ok_impl_FareyNeighbours : GSpec Try.prog s_impl_FareyNeighbours := by
  refine fn_known tab_ok fol ((((Known.nil.cons ok_impl_isRat (by kernel_rfl)).cons ok_impl_isOrder (by kernel_rfl)).cons ok_impl_farey (by kernel_rfl)).cons ok_lib_IndexRat (by kernel_rfl)) (by decide) Try.func8 ?_
  rintro ⟨⟨(a : Int), (b : Int)⟩, (n : Int), ⟨⟩⟩ hl _
  have r1 := idxF_rng (fun y => eqRt ⟨a, b⟩ y) (faL n)
  repeat' (first | with_reducible apply andAll_cons | with_reducible apply andAll_nil | (with_reducible apply Cf.mk; kernel_rfl) | apply And.intro | intro _ | exact True.intro | apply Lf.mk)
  all_goals (try simp only [Bool.not_eq_true', Bool.not_eq_false', Bool.not_not, decide_eq_true_eq, decide_eq_false_iff_not, beq_iff_eq, bne_iff_ne, beq_eq_false_iff_ne, bne_eq_false_iff_eq, ne_eq, Bool.and_eq_true, Bool.and_eq_false_iff, Bool.or_eq_true, Bool.or_eq_false_iff, Int.toNat_natCast, Nat.zero_add, Int.ofNat_lt, Int.ofNat_le, List.length_cons, List.length_nil, List.drop_zero, List.take_length] at *)
  all_goals first | exact inB_1 (by assumption) | exact inB_2 (by assumption) | (have := faL_len (inB_2 (n := n) (by assumption)); omega) | (simp [fnRes, fnAt, *]; done) | (simp [fnRes, fnAt, *]; rfl) | trace_state
noncomputable def s_spec_FareyNeighbours : Sig := ⟨9, [.val .rat, .val NI], [.val .rat, .val .rat, .val .bool], fun ((x : Rt), (n : Int), _) => ⟨[], ((fnRes x n).1, (fnRes x n).2.1, (fnRes x n).2.2, ()), ()⟩⟩
theorem ok_spec_FareyNeighbours : GSpec Try.prog s_spec_FareyNeighbours := by
  refine fn_known tab_ok fol ((((Known.nil.cons ok_spec_raGood (by kernel_rfl)).cons ok_spec_faOrder (by kernel_rfl)).cons ok_spec_faList (by kernel_rfl)).cons ok_spec_orAt (by kernel_rfl)) (by decide) Try.func9 ?_
  rintro ⟨⟨(a : Int), (b : Int)⟩, (n : Int), ⟨⟩⟩ hl _
  have r1 := idxF_rng (fun y => eqRt ⟨a, b⟩ y) (faL n)
  have r2 : (idxF (fun y => eqRt ⟨a, b⟩ y) (faL n) ≤ 0) ↔ (idxF (fun y => eqRt ⟨a, b⟩ y) (faL n) < 1) := by omega
  repeat' (first | with_reducible apply andAll_cons | with_reducible apply andAll_nil | (with_reducible apply Cf.mk; kernel_rfl) | apply And.intro | intro _ | exact True.intro | apply Lf.mk)
  all_goals (try simp only [Bool.not_eq_true', Bool.not_eq_false', Bool.not_not, decide_eq_true_eq, decide_eq_false_iff_not, beq_iff_eq, bne_iff_ne, beq_eq_false_iff_ne, bne_eq_false_iff_eq, ne_eq, Bool.and_eq_true, Bool.and_eq_false_iff, Bool.or_eq_true, Bool.or_eq_false_iff, Int.toNat_natCast, Nat.zero_add, Int.ofNat_lt, Int.ofNat_le, List.length_cons, List.length_nil, List.drop_zero, List.take_length] at *)
  all_goals (try have r5 : ¬ (idxF (fun y => eqRt ⟨a, b⟩ y) (faL n) < 1) := (by omega))
  all_goals (try have r5 : idxF (fun y => eqRt ⟨a, b⟩ y) (faL n) < 1 := (by omega))
  all_goals first | exact inB_1 (by assumption) | exact inB_2 (by assumption) | (have := faL_len (inB_2 (n := n) (by assumption)); omega) | (simp [fnRes, fnAt, *]; done) | (simp [fnRes, fnAt, *]; rfl) | (rw [r2] at *; simp [fnRes, fnAt, *]; done) | (simp [fnRes, fnAt, *]; done) | (simp [fnRes, fnAt, *]; rfl) | trace_state

def apN (x y : Rt) : Int := ((x.num * y.den - y.num * x.den).natAbs : Int)
def baStep (x : Rt) (best y : Rt) : Rt := bif decide (apN x y * best.den < apN x best * y.den) then y else best
noncomputable def s_impl_BestApproximation_1 : Sig := ⟨49, [.val .rat, .cell 28 .rat], [.val NI], fun ((y : Rt), (x : Rt), _) => ⟨[goodRt x = true, goodRt y = true], (apN x y, ()), (x, ())⟩⟩
theorem ok_impl_BestApproximation_1 : GSpec Try.prog s_impl_BestApproximation_1 := by
  refine fn_known tab_ok fol (Known.nil.cons ok_impl_abs (by kernel_rfl)) (by decide) Try.func49 ?_
  rintro ⟨⟨(a : Int), (b : Int)⟩, ⟨(c : Int), (d : Int)⟩, ⟨⟩⟩ hl ⟨h1, h2, _⟩
  have b1 := ratmul h1 h2
  have b2 := ratmul h2 h1
  repeat' (first | with_reducible apply andAll_cons | with_reducible apply andAll_nil | (with_reducible apply Cf.mk; kernel_rfl) | apply And.intro | intro _ | exact True.intro | apply Lf.mk)
  all_goals (try simp only [Bool.not_eq_true', Bool.not_eq_false', Bool.not_not, decide_eq_true_eq, decide_eq_false_iff_not, beq_iff_eq, bne_iff_ne, beq_eq_false_iff_ne, bne_eq_false_iff_eq, ne_eq, Bool.and_eq_true, Bool.and_eq_false_iff, Bool.or_eq_true, Bool.or_eq_false_iff, Int.toNat_natCast, Nat.zero_add, Int.ofNat_lt, Int.ofNat_le, List.length_cons, List.length_nil, List.drop_zero, List.take_length] at *)
  all_goals first | omega | rfl | trace_state
theorem fRow_mem {d k : Nat} {x : Rt} (h : x ∈ fRow d k) : ∃ j : Nat, j < k ∧ x = (lowRt (j : Int) (d : Int)).1 := by
  unfold fRow at h
  obtain ⟨j, h1, h2⟩ := List.mem_map.1 h
  exact ⟨j, List.mem_range.1 h1, h2.symm⟩
theorem fRaw_mem {x : Rt} : ∀ {n : Nat}, x ∈ fRaw n → ∃ j d : Nat, j ≤ n ∧ 1 ≤ d ∧ d ≤ n ∧ x = (lowRt (j : Int) (d : Int)).1
  | 0, h => by rw [fRaw_zero] at h; cases h
  | n + 1, h => by
    rw [fRaw_succ] at h
    rcases List.mem_append.1 h with h | h
    · obtain ⟨j, d, h1, h2, h3, h4⟩ := fRaw_mem h
      exact ⟨j, d, by omega, h2, by omega, h4⟩
    · obtain ⟨j, h1, h2⟩ := fRow_mem h
      exact ⟨j, n + 1, by omega, by omega, by omega, h2⟩
theorem faL_mem {x : Rt} {n : Int} (h : x ∈ faL n) : x ∈ fRaw n.toNat := by
  unfold faL at h
  rcases putsL_mem.1 h with h | h
  · cases h
  · exact h
/-- small numbers -/
def tiny (y : Rt) : Prop := goodRt y = true ∧ y.den ≤ 20 ∧ -20 ≤ y.num ∧ y.num ≤ 20 ∧ 0 ≤ qR y
theorem tiny_zero : tiny ⟨0, 1⟩ := ⟨good_zero, by decide, by decide, by decide, by rw [q_zero]; grind⟩
theorem faL_tiny {y : Rt} {n : Int} (hn : n ≤ 20) (h : y ∈ faL n) : tiny y := by
  obtain ⟨j, d, h1, h2, h3, rfl⟩ := fRaw_mem (faL_mem h)
  have ok := low_ok (j := j) (d := d) h2 (by omega) (by omega)
  have b := low_bd ok
  have q := q_low (by omega) ok
  refine ⟨lowRt_good1 ok, by omega, by omega, by omega, ?_⟩
  rw [q]
  have e1 : (0 : Rat) ≤ ((j : Int) : Rat) := by have := Rat.intCast_le_intCast.2 (show (0 : Int) ≤ (j : Int) by omega); simpa using this
  have e2 : (0 : Rat) < ((d : Int) : Rat) := by have := Rat.intCast_lt_intCast.2 (show (0 : Int) < (d : Int) by omega); simpa using this
  rw [Rat.div_def]
  exact Rat.mul_nonneg e1 (Rat.le_of_lt (Rat.inv_pos.2 e2))
theorem low_01 : (lowRt 0 1).1 = ⟨0, 1⟩ := by
  have ok := low_ok (j := 0) (d := 1) (by omega) (by omega) (by omega)
  have q := q_low (by decide) ok
  refine q_inj (lowRt_good1 ok) good_zero ?_
  rw [q_zero]
  refine q.trans ?_
  rw [Rat.div_def]
  simp
theorem faL_zero {n : Int} (h1 : 1 ≤ n) (h2 : n ≤ 20) : (⟨0, 1⟩ : Rt) ∈ faL n := by
  have key : ∀ m : Nat, (⟨0, 1⟩ : Rt) ∈ fRaw (m + 1) := by
    intro m
    induction m with
    | zero =>
      rw [fRaw_succ, fRow_succ, fRow_succ, fRow_zero]
      refine List.mem_append.2 (.inr ?_)
      simp only [List.nil_append, List.cons_append, List.mem_cons]
      exact .inl low_01.symm
    | succ m ih => rw [fRaw_succ]; exact List.mem_append.2 (.inl ih)
  unfold faL
  refine putsL_mem.2 (.inr ?_)
  obtain ⟨m, hm⟩ : ∃ m, n.toNat = m + 1 := ⟨n.toNat - 1, by omega⟩
  rw [hm]; exact key m
theorem faL_head {n : Int} (h1 : 1 ≤ n) (h2 : n ≤ 20) : getA zR (faL n) 0 = ⟨0, 1⟩ := by
  have hz := faL_zero h1 h2
  have hs := faL_ss h2
  have ht : ∀ y ∈ faL n, tiny y := fun y hy => faL_tiny h2 hy
  revert hz hs ht
  generalize faL n = l
  intro hz hs ht
  match l, hz, hs, ht with
  | y :: r, hz, hs, ht =>
    show y = _
    rcases List.mem_cons.1 hz with h | h
    · exact h.symm
    · have h3 := (List.pairwise_cons.1 hs).1 _ h
      have h4 := (ht y (by simp)).2.2.2.2
      rw [q_zero] at h3
      grind
theorem baStep_tiny {x b y : Rt} (hb : tiny b) (hy : tiny y) : tiny (baStep x b y) := by
  unfold baStep
  cases decide (apN x y * b.den < apN x b * y.den)
  · exact hb
  · exact hy
@[irreducible] def baF (x : Rt) (l : List Rt) : Rt := l.foldl (baStep x) ⟨0, 1⟩
theorem baF_nil (x : Rt) : baF x [] = ⟨0, 1⟩ := by unfold baF; rfl
theorem baF_one (x : Rt) (l : List Rt) (y : Rt) : baF x (l ++ [y]) = baStep x (baF x l) y := by unfold baF; rw [List.foldl_append]; rfl
theorem baF_next (x : Rt) (l : List Rt) (i : Nat) (h : i < l.length) : baF x (l.take (i + 1)) = baStep x (baF x (l.take i)) (getA zR l i) := by rw [take_next zR h, baF_one]
theorem baF_tiny {x : Rt} {l : List Rt} (h : ∀ y ∈ l, tiny y) : ∀ i : Nat, i ≤ l.length → tiny (baF x (l.take i))
  | 0, _ => by rw [List.take_zero, baF_nil]; exact tiny_zero
  | i + 1, h2 => by rw [baF_next x l i (by omega)]; exact baStep_tiny (baF_tiny h i (by omega)) (h _ (getA_mem _ (by omega)))
theorem apN_bd {x y : Rt} (hx : goodRt x = true) (hy : tiny y) : 0 ≤ apN x y ∧ apN x y ≤ 40000000000 := by
  obtain ⟨g, h1, h2, h3, _⟩ := hy
  rw [goodRt_iff] at hx g
  have b1 := mul_bd (A := 1000000000) (B := 20) (a := x.num) (b := y.den) (by omega) (by omega) (by omega) (by omega) (by omega)
  have b2 := mul_bd (A := 20) (B := 1000000000) (a := y.num) (b := x.den) (by omega) (by omega) (by omega) (by omega) (by omega)
  unfold apN
  omega
theorem ap_bd {x y b : Rt} (hx : goodRt x = true) (hy : tiny y) (hb : tiny b) : 0 ≤ apN x y * b.den ∧ apN x y * b.den ≤ 800000000000 := by
  have h1 := apN_bd hx hy
  obtain ⟨g, h2, _⟩ := hb
  rw [goodRt_iff] at g
  have b1 := mul_bd (A := 40000000000) (B := 20) (a := apN x y) (b := b.den) (by omega) (by omega) (by omega) (by omega) (by omega)
  have b2 := Int.mul_nonneg h1.1 (show 0 ≤ b.den by omega)
  omega
theorem ap_lo {x y b : Rt} (hx : goodRt x = true) (hy : tiny y) (hb : tiny b) : -9223372036854775808 ≤ apN x y * b.den := by have := ap_bd hx hy hb; omega
theorem ap_hi {x y b : Rt} (hx : goodRt x = true) (hy : tiny y) (hb : tiny b) : apN x y * b.den ≤ 9223372036854775807 := by have := ap_bd hx hy hb; omega
theorem baStep_t {x b y : Rt} (h : apN x y * b.den < apN x b * y.den) : baStep x b y = y := by unfold baStep; rw [decide_eq_true h]; rfl
theorem baStep_f {x b y : Rt} (h : ¬ (apN x y * b.den < apN x b * y.den)) : baStep x b y = b := by unfold baStep; rw [decide_eq_false h]; rfl
theorem tiny_mul {a b : Int} {y : Rt} (hx : goodRt ⟨a, b⟩ = true) (hy : tiny y) : (-20000000000 ≤ a * y.den ∧ a * y.den ≤ 20000000000) ∧ (-20000000000 ≤ y.num * b ∧ y.num * b ≤ 20000000000) := by
  obtain ⟨g, h1, h2, h3, _⟩ := hy
  rw [goodRt_iff] at hx g
  dsimp only at hx
  have b1 := mul_bd (A := 1000000000) (B := 20) (a := a) (b := y.den) (by omega) (by omega) (by omega) (by omega) (by omega)
  have b2 := mul_bd (A := 20) (B := 1000000000) (a := y.num) (b := b) (by omega) (by omega) (by omega) (by omega) (by omega)
  omega
noncomputable def baRes (x : Rt) (n : Int) : Rt × Bool := match unitRt x && inB n 1 20 with
  | true => (baF x (faL n), true)
  | false => (⟨0, 0⟩, false)
theorem baRes_t {x : Rt} {n : Int} (h1 : unitRt x = true) (h2 : inB n 1 20 = true) : baRes x n = (baF x (faL n), true) := by unfold baRes; rw [h1, h2]; rfl
noncomputable def s_impl_BestApproximation : Sig := ⟨16, [.val .rat, .val NI], [.val .rat, .val .bool], fun ((x : Rt), (n : Int), _) => ⟨[], ((baRes x n).1, (baRes x n).2, ()), ()⟩⟩
theorem ok_impl_BestApproximation : GSpec Try.prog s_impl_BestApproximation := by
  refine fn_known tab_ok fol (((((Known.nil.cons ok_impl_isUnit (by kernel_rfl)).cons ok_impl_isOrder (by kernel_rfl)).cons ok_impl_zero (by kernel_rfl)).cons ok_impl_farey (by kernel_rfl)).cons ok_impl_BestApproximation_1 (by kernel_rfl)) (by decide) Try.func16 ?_
  rintro ⟨⟨(a : Int), (b : Int)⟩, (n : Int), ⟨⟩⟩ hl _
  repeat' (first | with_reducible apply andAll_cons | with_reducible apply andAll_nil | (with_reducible apply Cf.mk; kernel_rfl) | apply And.intro | intro _ | exact True.intro | apply Lf.mk)
  all_goals (try simp only [Bool.not_eq_true', Bool.not_eq_false', Bool.not_not, decide_eq_true_eq, decide_eq_false_iff_not, beq_iff_eq, bne_iff_ne, beq_eq_false_iff_ne, bne_eq_false_iff_eq, ne_eq, Bool.and_eq_true, Bool.and_eq_false_iff, Bool.or_eq_true, Bool.or_eq_false_iff, Int.toNat_natCast, Nat.zero_add, Int.ofNat_lt, Int.ofNat_le, List.length_cons, List.length_nil, List.drop_zero, List.take_length] at *)
  all_goals first | exact inB_1 (by assumption) | exact inB_2 (by assumption) | (simp [baRes, *]; done) | skip
  · have hx : unitRt ⟨a, b⟩ = true := by assumption
    have hn : inB n 1 20 = true := by assumption
    have hg := unit_good hx
    have ht : ∀ y ∈ faL n, tiny y := fun y hy => faL_tiny (inB_2 hn) hy
    have hlen := faL_len (inB_2 hn)
    refine ⟨Nat, fun i => ⟨[(24, .sc (.num .i64 (i : Int)))], [200220, 2, 4], [(7, .box 28 [.num .i64 (baF ⟨a, b⟩ ((faL n).take i)).num, .num .i64 (baF ⟨a, b⟩ ((faL n).take i)).den])]⟩, fun i => i ≤ (faL n).length, fun i => (faL n).length - i, ⟨0, by omega, ?_⟩, ?_⟩
    · have e : baF ⟨a, b⟩ ((faL n).take 0) = ⟨0, 1⟩ := by rw [List.take_zero, baF_nil]
      repeat' (first | apply And.intro | exact True.intro | exact Lf.mk (by with_reducible rfl) | apply Lf.mk)
      all_goals first | rfl | (rw [e]; rfl) | (rw [e]; done) | trace_state
    · rintro i q1
      have q2 := baF_tiny (x := ⟨a, b⟩) ht i q1
      repeat' (first | with_reducible apply andAll_cons | with_reducible apply andAll_nil | (with_reducible apply Cf.mk; kernel_rfl) | apply And.intro | intro _ | exact True.intro | apply Lf.mk)
      all_goals (try simp only [Bool.not_eq_true', Bool.not_eq_false', Bool.not_not, decide_eq_true_eq, decide_eq_false_iff_not, beq_iff_eq, bne_iff_ne, beq_eq_false_iff_ne, bne_eq_false_iff_eq, ne_eq, Bool.and_eq_true, Bool.and_eq_false_iff, Bool.or_eq_true, Bool.or_eq_false_iff, Int.toNat_natCast, Nat.zero_add, Int.ofNat_lt, Int.ofNat_le, List.length_cons, List.length_nil, List.drop_zero, List.take_length] at *)
      all_goals first | omega | skip
      all_goals first | exact (ht _ (getA_mem _ (by assumption))).1 | exact q2.1 | exact ap_lo hg (y := getA zR (faL n) i) (ht _ (getA_mem _ (by assumption))) q2 | exact ap_hi hg (y := getA zR (faL n) i) (ht _ (getA_mem _ (by assumption))) q2 | exact ap_lo hg q2 (b := getA zR (faL n) i) (ht _ (getA_mem _ (by assumption))) | exact ap_hi hg q2 (b := getA zR (faL n) i) (ht _ (getA_mem _ (by assumption))) | skip
      · rename_i h5 h6
        have e : baF ⟨a, b⟩ ((faL n).take (i + 1)) = getA zR (faL n) i := by rw [baF_next _ _ _ h5]; exact baStep_t h6
        refine ⟨i + 1, by omega, by omega, ?_⟩
        repeat' (first | apply And.intro | exact True.intro | exact Lf.mk (by with_reducible rfl) | apply Lf.mk)
        all_goals first | rfl | (rw [e]; rfl) | (rw [e]; done) | trace_state
      · rename_i h5 h6
        have e : baF ⟨a, b⟩ ((faL n).take (i + 1)) = baF ⟨a, b⟩ ((faL n).take i) := by rw [baF_next _ _ _ h5]; exact baStep_f h6
        refine ⟨i + 1, by omega, by omega, ?_⟩
        repeat' (first | apply And.intro | exact True.intro | exact Lf.mk (by with_reducible rfl) | apply Lf.mk)
        all_goals first | rfl | (rw [e]; rfl) | (rw [e]; done) | trace_state
      all_goals (have e : (faL n).take i = faL n := List.take_of_length_le (by omega))
      all_goals first | (rw [baRes_t hx hn, e]; done) | (rw [baRes_t hx hn, e]; rfl) | (rw [baRes_t hx hn]; done) | trace_state
noncomputable def s_spec_BestApproximation : Sig := ⟨17, [.val .rat, .val NI], [.val .rat, .val .bool], fun ((x : Rt), (n : Int), _) => ⟨[], ((baRes x n).1, (baRes x n).2, ()), ()⟩⟩
theorem ok_spec_BestApproximation : GSpec Try.prog s_spec_BestApproximation := by
  refine fn_known tab_ok fol ((((Known.nil.cons ok_spec_raUnit (by kernel_rfl)).cons ok_spec_faOrder (by kernel_rfl)).cons ok_spec_faList (by kernel_rfl)).cons ok_spec_l1Abs (by kernel_rfl)) (by decide) Try.func17 ?_
  rintro ⟨⟨(a : Int), (b : Int)⟩, (n : Int), ⟨⟩⟩ hl _
  have hpos : inB n 1 20 = true → 0 < (faL n).length := fun h => List.length_pos_of_mem (faL_zero (inB_1 h) (inB_2 h))
  repeat' (first | with_reducible apply andAll_cons | with_reducible apply andAll_nil | (with_reducible apply Cf.mk; kernel_rfl) | apply And.intro | intro _ | exact True.intro | apply Lf.mk)
  all_goals (try simp only [Bool.not_eq_true', Bool.not_eq_false', Bool.not_not, decide_eq_true_eq, decide_eq_false_iff_not, beq_iff_eq, bne_iff_ne, beq_eq_false_iff_ne, bne_eq_false_iff_eq, ne_eq, Bool.and_eq_true, Bool.and_eq_false_iff, Bool.or_eq_true, Bool.or_eq_false_iff, Int.toNat_natCast, Nat.zero_add, Int.ofNat_lt, Int.ofNat_le, List.length_cons, List.length_nil, List.drop_zero, List.take_length] at *)
  all_goals first | exact inB_1 (by assumption) | exact inB_2 (by assumption) | exact hpos (by assumption) | (simp [baRes, *]; done) | skip
  · have hx : unitRt ⟨a, b⟩ = true := by assumption
    have hn : inB n 1 20 = true := by assumption
    have hg := unit_good hx
    have ht : ∀ y ∈ faL n, tiny y := fun y hy => faL_tiny (inB_2 hn) hy
    have hlen := faL_len (inB_2 hn)
    have hh := faL_head (inB_1 hn) (inB_2 hn)
    refine ⟨Nat, fun i => ⟨[(26, .sc (.num .i64 (i : Int)))], [200200, 2, 4], [(7, .box 28 [.num .i64 (baF ⟨a, b⟩ ((faL n).take i)).num, .num .i64 (baF ⟨a, b⟩ ((faL n).take i)).den])]⟩, fun i => i ≤ (faL n).length, fun i => (faL n).length - i, ⟨0, by omega, ?_⟩, ?_⟩
    · have e : baF ⟨a, b⟩ ((faL n).take 0) = getA zR (faL n) 0 := by rw [List.take_zero, baF_nil, hh]
      repeat' (first | apply And.intro | exact True.intro | exact Lf.mk (by with_reducible rfl) | apply Lf.mk)
      all_goals first | rfl | (rw [e]; rfl) | (rw [e]; done) | trace_state
    · rintro i q1
      have q2 := baF_tiny (x := ⟨a, b⟩) ht i q1
      have q3 : i < (faL n).length → tiny (getA (VK.dflt .rat) (faL n) i) := fun h => ht _ (getA_mem _ h)
      have q4 := tiny_mul hg q2
      have q5 : i < (faL n).length → _ := fun h => tiny_mul hg (q3 h)
      repeat' (first | with_reducible apply andAll_cons | with_reducible apply andAll_nil | (with_reducible apply Cf.mk; kernel_rfl) | apply And.intro | intro _ | exact True.intro | apply Lf.mk)
      all_goals (try simp only [Bool.not_eq_true', Bool.not_eq_false', Bool.not_not, decide_eq_true_eq, decide_eq_false_iff_not, beq_iff_eq, bne_iff_ne, beq_eq_false_iff_ne, bne_eq_false_iff_eq, ne_eq, Bool.and_eq_true, Bool.and_eq_false_iff, Bool.or_eq_true, Bool.or_eq_false_iff, Int.toNat_natCast, Nat.zero_add, Int.ofNat_lt, Int.ofNat_le, List.length_cons, List.length_nil, List.drop_zero, List.take_length] at *)
      all_goals first | omega | (have q6 := q5 (by assumption); clear q5; omega) | skip
      all_goals first | exact ap_lo hg (y := getA zR (faL n) i) (ht _ (getA_mem _ (by assumption))) q2 | exact ap_hi hg (y := getA zR (faL n) i) (ht _ (getA_mem _ (by assumption))) q2 | exact ap_lo hg q2 (b := getA zR (faL n) i) (ht _ (getA_mem _ (by assumption))) | exact ap_hi hg q2 (b := getA zR (faL n) i) (ht _ (getA_mem _ (by assumption))) | skip
      · rename_i h5 h6
        have e : baF ⟨a, b⟩ ((faL n).take (i + 1)) = getA zR (faL n) i := by rw [baF_next _ _ _ h5]; exact baStep_t h6
        refine ⟨i + 1, by omega, by omega, ?_⟩
        repeat' (first | apply And.intro | exact True.intro | exact Lf.mk (by with_reducible rfl) | apply Lf.mk)
        all_goals first | rfl | (rw [e]; rfl) | (rw [e]; done) | trace_state
      · rename_i h5 h6
        have e : baF ⟨a, b⟩ ((faL n).take (i + 1)) = baF ⟨a, b⟩ ((faL n).take i) := by rw [baF_next _ _ _ h5]; exact baStep_f h6
        refine ⟨i + 1, by omega, by omega, ?_⟩
        repeat' (first | apply And.intro | exact True.intro | exact Lf.mk (by with_reducible rfl) | apply Lf.mk)
        all_goals first | rfl | (rw [e]; rfl) | (rw [e]; done) | trace_state
      all_goals (have e : (faL n).take i = faL n := List.take_of_length_le (by omega))
      all_goals first | (rw [baRes_t hx hn, e]; done) | (rw [baRes_t hx hn, e]; rfl) | (rw [baRes_t hx hn]; done) | trace_state
end Go.Vx
