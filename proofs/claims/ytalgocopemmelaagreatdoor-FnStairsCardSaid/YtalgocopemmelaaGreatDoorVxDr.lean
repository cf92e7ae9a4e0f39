/- What is drawn: orders, fractions. -/
import Derived.Test.YtalgocopemmelaaGreatDoorVxCu
import Derived.Test.YtalgocopemmelaaGreatDoorVxC
import Derived.Test.YtalgocopemmelaaGreatDoorVxK
namespace Go.Vx
open Go Go.Proofs
set_option maxRecDepth 100000
set_option linter.unusedSimpArgs false
set_option linter.unusedVariables false

noncomputable def s_cur_gridRat : Sig := ⟨52, [.cell 56 .cur, .val NI], [.val .rat], fun ((c : Cur), (n : Int), _) => ⟨[AtOk 2 c, 1 ≤ n, n ≤ 100000], (griV c n, ()), (pickS c (n + 1), ())⟩⟩
theorem ok_cur_gridRat : GSpec Tryz.prog s_cur_gridRat := by
  refine fn_known tab_ok fol ((Known.nil.cons ok_cur_pick (by kernel_rfl)).cons ok_spec_raMake (by kernel_rfl)) (by decide) Tryz.func52 ?_
  rintro ⟨(c : Cur), (n : Int), ⟨⟩⟩ hl ⟨h1, h2, h3, _⟩
  have v3 := pickV_lt c (n := n + 1) (by omega)
  have e2 : griV c n = (lowRt (pickV c (n + 1)) n).1 := by unfold griV; rfl
  repeat' (first | with_reducible apply andAll_cons | with_reducible apply andAll_nil | (with_reducible apply Cf.mk; kernel_rfl) | apply And.intro | intro _ | exact True.intro | apply Lf.mk)
  all_goals (try simp only [cur_eta, List.length_cons, List.length_nil, Nat.zero_add, Nat.reduceAdd, Int.cast_ofNat_Int])
  all_goals first
    | (simp only [anyS_r, anyS1_r, ratS_r, ratS1_r, uniS_r, uniS1_r, ordS_r, pickS_r, nextS_r]; exact ⟨100000, rfl⟩) | exact ⟨100000, rfl⟩ | exact h1.le (by decide) | exact (pick_at h1).le (by decide)
    | omega | exact e2.symm | rfl | (show inI64 _; unfold inI64; omega) | trace_state
noncomputable def s_cur_rat : Sig := ⟨73, [.cell 56 .cur], [.val .rat], fun ((c : Cur), _) => ⟨[AtOk 12 c], (ratW c, ()), (ratS c, ())⟩⟩
theorem ok_cur_rat : GSpec Tryz.prog s_cur_rat := by
  refine fn_known tab_ok fol ((((Known.nil.cons ok_cur_pick (by kernel_rfl)).cons ok_cur_among (by kernel_rfl)).cons ok_spec_raMake (by kernel_rfl)).cons ok_spec_raInt (by kernel_rfl)) (by decide) Tryz.func73 ?_
  rintro ⟨(c : Cur), ⟨⟩⟩ hl ⟨h1, _⟩
  have v1 := pickV_lt c (n := 41) (by omega)
  have v2 := pickV_lt (pickS c 41) (n := 2001) (by omega)
  have v3 := pickV_lt (ratS1 c) (n := 20) (by omega)
  have v4 := pickV_lt (pickS (ratS1 c) 20) (n := 1000) (by omega)
  have n1 := ratN_rng c
  have n2 := ratE_rng c
  have e1 : ratN c = amongV (pickS (pickS c 41) 2001) [0, 1, 2, 3, -1, -5, pickV c 41 - 20, pickV (pickS c 41) 2001 - 1000, 1000000000, -1000000000] := by unfold ratN; rfl
  have e3 : ratS1 c = pickS (pickS (pickS c 41) 2001) 10 := rfl
  have e2 : ratE c = amongV (pickS (pickS (ratS1 c) 20) 1000) [1, 2, 3, 4, 8, 7, 1 + pickV (ratS1 c) 20, 1 + pickV (pickS (ratS1 c) 20) 1000, 1000000000, 999999999] := by unfold ratE; rfl
  repeat' (first | with_reducible apply andAll_cons | with_reducible apply andAll_nil | (with_reducible apply Cf.mk; kernel_rfl) | apply And.intro | intro _ | exact True.intro | apply Lf.mk)
  all_goals (try simp only [cur_eta, List.length_cons, List.length_nil, Nat.zero_add, Nat.reduceAdd, Int.cast_ofNat_Int])
  all_goals (try simp only [← e1, ← e3])
  all_goals (try simp only [← e2])
  all_goals first
    | (simp only [anyS_r, anyS1_r, ratS_r, ratS1_r, uniS_r, uniS1_r, ordS_r, pickS_r, nextS_r]; exact ⟨100000, rfl⟩) | exact ⟨100000, rfl⟩ | exact h1.le (by decide) | exact (pick_at h1).le (by decide) | exact (pick_at (pick_at h1)).le (by decide) | exact (pick_at (pick_at (pick_at h1))).le (by decide)
    | exact (pick_at (pick_at (pick_at (pick_at h1)))).le (by decide) | exact (pick_at (pick_at (pick_at (pick_at (pick_at h1))))).le (by decide)
    | (show 1 ≤ List.length _; simp; done) | decide | omega | exact (ratS_eq c).symm | (show inI64 _; unfold inI64; omega)
    | (rename_i hb
       simp only [cur_eta, List.length_cons, List.length_nil, Nat.zero_add, Nat.reduceAdd, Int.cast_ofNat_Int, ← e1, ← e3] at hb
       simp only [← e2] at hb
       first | (rw [ratW_t (by simpa using hb)]; done) | (rw [ratW_f (by simpa using hb)]; done))
    | trace_state
noncomputable def s_cur_anyRat : Sig := ⟨53, [.cell 56 .cur], [.val .rat], fun ((c : Cur), _) => ⟨[AtOk 18 c], (anyV c, ()), (anyS c, ())⟩⟩
theorem ok_cur_anyRat : GSpec Tryz.prog s_cur_anyRat := by
  refine fn_known tab_ok fol (((Known.nil.cons ok_cur_rat (by kernel_rfl)).cons ok_cur_pick (by kernel_rfl)).cons ok_cur_among (by kernel_rfl)) (by decide) Tryz.func53 ?_
  rintro ⟨(c : Cur), ⟨⟩⟩ hl ⟨h1, _⟩
  have e1 : anyS1 c = pickS (ratS c) 40 := rfl
  have h2 : AtOk 4 (anyS1 c) := pick_at (rat_at h1)
  repeat' (first | with_reducible apply andAll_cons | with_reducible apply andAll_nil | (with_reducible apply Cf.mk; kernel_rfl) | apply And.intro | intro _ | exact True.intro | apply Lf.mk)
  all_goals (try simp only [cur_eta, List.length_cons, List.length_nil, Nat.zero_add, Nat.reduceAdd, Int.cast_ofNat_Int])
  all_goals (try simp only [← e1])
  all_goals (try simp only [Bool.not_eq_true', Bool.not_eq_false', Bool.not_not, decide_eq_true_eq, decide_eq_false_iff_not, beq_iff_eq, bne_iff_ne, beq_eq_false_iff_ne, bne_eq_false_iff_eq, ne_eq, Bool.and_eq_true, Bool.and_eq_false_iff, Bool.or_eq_true, Bool.or_eq_false_iff, Int.toNat_natCast, Nat.zero_add, Int.ofNat_lt, Int.ofNat_le, List.length_cons, List.length_nil, List.drop_zero, List.take_length] at *)
  all_goals first
    | (simp only [anyS_r, anyS1_r, ratS_r, ratS1_r, uniS_r, uniS1_r, ordS_r, pickS_r, nextS_r]; exact ⟨100000, rfl⟩) | exact ⟨100000, rfl⟩ | exact h1.le (by decide) | exact (rat_at h1).le (by decide) | exact h2.le (by decide) | exact pick_at h2
    | (show 1 ≤ List.length _; simp; done) | decide
    | (rw [(any_0 (by assumption)).1]; done) | exact (any_0 (by assumption)).2.symm
    | (rw [(any_1 (by assumption)).1]; done) | exact (any_1 (by assumption)).2.symm
    | (rw [(any_2 (by assumption)).1]; done) | exact (any_2 (by assumption)).2.symm
    | (rw [(any_3 (by assumption) (by assumption) (by assumption)).1]; done) | exact (any_3 (by assumption) (by assumption) (by assumption)).2.symm
    | omega | trace_state
end Go.Vx
