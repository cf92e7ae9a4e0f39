/- Convergents: the program's functions and the reference's. -/
import Derived.Test.YtfnfbomnijlhcaaDoorVxM
namespace Go.Vx
open Go Go.Proofs
set_option maxRecDepth 100000
set_option linter.unusedSimpArgs false
set_option linter.unusedVariables false

theorem cfA_nums : ∀ (f : Nat) (n d : Int), 0 ≤ d → d ≤ 1000000000 → -1000000000 ≤ n → n ≤ 1000000000 → ∀ x ∈ cfA f n d, -1000000000 ≤ x ∧ x ≤ 1000000000
  | 0, _, _, _, _, _, _, x, hx => by cases hx
  | f + 1, n, d, h0, h1, h2, h3, x, hx => by
    simp only [cfA] at hx
    split at hx
    · cases hx
    · rename_i hd
      rcases List.mem_cons.1 hx with rfl | hx
      · exact ediv_bd (by omega) h2 h3 (by omega)
      · have := Int.emod_nonneg n hd
        have := Int.emod_lt_of_pos n (b := d) (by omega)
        exact cfA_nums f d (n % d) (by omega) (by omega) (by omega) (by omega) x hx
theorem cf_nums {x : Rt} (h : goodRt x = true) : numsOk (cf x.num x.den) := by
  have := goodRt_iff.1 h
  exact cfA_nums _ _ _ (by omega) (by omega) (by omega) (by omega)
theorem nums_take {l : List Int} (h : numsOk l) (n : Nat) : numsOk (l.take n) := fun x hx => h x (List.mem_of_mem_take hx)
noncomputable def cvG (l : List Int) : Nat → Nat → List Rt → List Rt × Bool
  | 0, _, acc => (acc, true)
  | m + 1, k, acc => match (fcR (l.take (k + 1))).2 with
    | true => cvG l m (k + 1) (acc ++ [(fcR (l.take (k + 1))).1])
    | false => ([], false)
theorem cvG_bad {l : List Int} {k : Nat} {acc : List Rt} (h : k < l.length) (h2 : (fcR (l.take (k + 1))).2 = false) : cvG l (l.length - k) k acc = ([], false) := by
  rw [show l.length - k = (l.length - (k + 1)) + 1 by omega, cvG, h2]
theorem cvG_ok {l : List Int} {k : Nat} {acc : List Rt} (h : k < l.length) (h2 : (fcR (l.take (k + 1))).2 = true) : cvG l (l.length - k) k acc = cvG l (l.length - (k + 1)) (k + 1) (acc ++ [(fcR (l.take (k + 1))).1]) := by
  rw [show l.length - k = (l.length - (k + 1)) + 1 by omega, cvG, h2]
theorem cvG_end {l : List Int} {k : Nat} {acc : List Rt} (h : ¬ k < l.length) : cvG l (l.length - k) k acc = (acc, true) := by
  rw [show l.length - k = 0 by omega]; rfl
theorem cvG_len (l : List Int) : ∀ (m k : Nat) (acc : List Rt), (cvG l m k acc).1.length ≤ acc.length + m
  | 0, _, acc => Nat.le_refl _
  | m + 1, k, acc => by
    rw [cvG]
    split
    · have := cvG_len l m (k + 1) (acc ++ [(fcR (l.take (k + 1))).1])
      rw [List.length_append, List.length_singleton] at this; omega
    · exact Nat.zero_le _
noncomputable def cvRes (x : Rt) : List Rt × Bool := match goodRt x with
  | true => cvG (cf x.num x.den) (cf x.num x.den).length 0 []
  | false => ([], false)
theorem cv_t {x : Rt} (h : goodRt x = true) : cvRes x = cvG (cf x.num x.den) ((cf x.num x.den).length - 0) 0 [] := by unfold cvRes; rw [h]; rfl
theorem cv_f {x : Rt} (h : goodRt x = false) : cvRes x = ([], false) := by unfold cvRes; rw [h]
theorem cf_len {x : Rt} (h : goodRt x = true) : (cf x.num x.den).length ≤ 1000000001 := by
  have := goodRt_iff.1 h
  have := cf_length x.num x.den
  omega
theorem cv_len (x : Rt) : (cvRes x).1.length ≤ 1000000001 := by
  cases h : goodRt x with
  | false => rw [cv_f h]; exact Nat.zero_le _
  | true =>
    rw [cv_t h]
    have := cvG_len (cf x.num x.den) ((cf x.num x.den).length - 0) 0 []
    have := cf_len h
    simp only [List.length_nil] at *
    omega
noncomputable def s_impl_ConvergentsOf : Sig := ⟨14, [.val .rat], [.list 24 .rat, .val .bool], fun ((x : Rt), _) => ⟨[], ((cvRes x).1, (cvRes x).2, ()), ()⟩⟩
noncomputable def s_spec_ConvergentsOf : Sig := ⟨15, [.val .rat], [.list 24 .rat, .val .bool], fun ((x : Rt), _) => ⟨[], ((cvRes x).1, (cvRes x).2, ()), ()⟩⟩
theorem succ_nat' (i : Nat) : ((i : Int) + 1).toNat = i + 1 := by omega
theorem ok_impl_ConvergentsOf : GSpec Tryd.prog s_impl_ConvergentsOf := by
  refine fn_known tab_ok fol (((Known.nil.cons ok_impl_isRat (by kernel_rfl)).cons ok_impl_continued (by kernel_rfl)).cons ok_impl_fromContinued (by kernel_rfl)) (by decide) Tryd.func14 ?_
  rintro ⟨⟨(n : Int), (d : Int)⟩, ⟨⟩⟩ - -
  repeat' (first | with_reducible apply andAll_cons | with_reducible apply andAll_nil | (with_reducible apply Cf.mk; kernel_rfl) | apply And.intro | intro _ | exact True.intro | apply Lf.mk)
  all_goals (try simp only [Bool.not_eq_true', Bool.not_eq_false', Bool.not_not, decide_eq_true_eq, decide_eq_false_iff_not, beq_iff_eq, bne_iff_ne, beq_eq_false_iff_ne, bne_eq_false_iff_eq, ne_eq, Bool.and_eq_true, Bool.and_eq_false_iff, Bool.or_eq_true, Bool.or_eq_false_iff, Int.toNat_natCast, Nat.zero_add, Int.ofNat_lt, Int.ofNat_le, List.length_cons, List.length_nil, List.drop_zero, List.take_length] at *)
  all_goals first | assumption | (rw [cv_f (by assumption)]; done) | skip
  rename_i hg
  have hL := cf_len hg
  have hN := cf_nums hg
  dsimp only at hL hN
  refine ⟨Nat × List Rt, fun x => ⟨[(16, .sc (.num .i64 x.1)), (5, .sc (.own 7777777))], [200130], [(7777777, .row 24 .rat x.2)]⟩, fun x => x.1 ≤ (cf n d).length ∧ x.2.length = x.1 ∧ cvG (cf n d) ((cf n d).length - x.1) x.1 x.2 = cvRes ⟨n, d⟩, fun x => (cf n d).length - x.1, ⟨(0, []), ⟨Nat.zero_le _, rfl, (cv_t hg).symm⟩, ?_⟩, ?_⟩
  · repeat' (first | apply And.intro | exact True.intro | exact Lf.mk (by with_reducible rfl) | apply Lf.mk)
    all_goals first | rfl | simp
  · rintro ⟨k, acc⟩ ⟨g1, g2, g3⟩
    dsimp only at g1 g2 g3
    repeat' (first | with_reducible apply andAll_cons | with_reducible apply andAll_nil | (with_reducible apply Cf.mk; kernel_rfl) | apply And.intro | intro _ | exact True.intro | apply Lf.mk)
    all_goals (try simp only [Bool.not_eq_true', Bool.not_eq_false', Bool.not_not, decide_eq_true_eq, decide_eq_false_iff_not, beq_iff_eq, bne_iff_ne, beq_eq_false_iff_ne, bne_eq_false_iff_eq, ne_eq, Bool.and_eq_true, Bool.and_eq_false_iff, Bool.or_eq_true, Bool.or_eq_false_iff, Int.toNat_natCast, Nat.zero_add, Int.ofNat_lt, Int.ofNat_le, List.length_cons, List.length_nil, List.drop_zero, List.take_length] at *)
    all_goals (try simp only [succ_nat', List.drop_zero, Nat.sub_zero] at *)
    all_goals first
      | omega
      | (show (_ + 1) * 16 ≤ 140737488355328; omega)
      | exact (hN _ (List.mem_of_mem_take (by assumption))).1
      | exact (hN _ (List.mem_of_mem_take (by assumption))).2
      | (rw [List.length_take]; omega)
      | exact congrArg Prod.fst (g3.symm.trans (cvG_bad (by omega) (by assumption)))
      | exact congrArg Prod.snd ((cvG_bad (by omega) (by assumption)).symm.trans g3)
      | exact (congrArg Prod.fst ((cvG_end (by omega)).symm.trans g3))
      | exact (congrArg Prod.snd ((cvG_end (by omega)).symm.trans g3))
      | skip
    refine ⟨(k + 1, acc ++ [(fcR ((cf n d).take (k + 1))).1]), ⟨by dsimp only; omega, by simp only [List.length_append, List.length_singleton]; omega, (cvG_ok (by omega) (by assumption)).symm.trans g3⟩, by dsimp only; omega, ?_⟩
    repeat' (first | apply And.intro | exact True.intro | exact Lf.mk (by with_reducible rfl) | apply Lf.mk)
    all_goals first | rfl | (rw [Int.natCast_add]; rfl)
theorem ok_spec_ConvergentsOf : GSpec Tryd.prog s_spec_ConvergentsOf := by
  refine fn_known tab_ok fol (((Known.nil.cons ok_spec_raGood (by kernel_rfl)).cons ok_spec_faContinued (by kernel_rfl)).cons ok_spec_faFrom (by kernel_rfl)) (by decide) Tryd.func15 ?_
  rintro ⟨⟨(n : Int), (d : Int)⟩, ⟨⟩⟩ - -
  repeat' (first | with_reducible apply andAll_cons | with_reducible apply andAll_nil | (with_reducible apply Cf.mk; kernel_rfl) | apply And.intro | intro _ | exact True.intro | apply Lf.mk)
  all_goals (try simp only [Bool.not_eq_true', Bool.not_eq_false', Bool.not_not, decide_eq_true_eq, decide_eq_false_iff_not, beq_iff_eq, bne_iff_ne, beq_eq_false_iff_ne, bne_eq_false_iff_eq, ne_eq, Bool.and_eq_true, Bool.and_eq_false_iff, Bool.or_eq_true, Bool.or_eq_false_iff, Int.toNat_natCast, Nat.zero_add, Int.ofNat_lt, Int.ofNat_le, List.length_cons, List.length_nil, List.drop_zero, List.take_length] at *)
  all_goals first | assumption | (rw [cv_f (by assumption)]; done) | skip
  rename_i hg
  have hL := cf_len hg
  have hN := cf_nums hg
  dsimp only at hL hN
  refine ⟨Nat × List Rt, fun x => ⟨[(6, .sc (.num .i64 ((x.1 : Int) + 1))), (5, .sc (.own 7777777))], [200130], [(7777777, .row 24 .rat x.2)]⟩, fun x => x.1 ≤ (cf n d).length ∧ x.2.length = x.1 ∧ cvG (cf n d) ((cf n d).length - x.1) x.1 x.2 = cvRes ⟨n, d⟩, fun x => (cf n d).length - x.1, ⟨(0, []), ⟨Nat.zero_le _, rfl, (cv_t hg).symm⟩, ?_⟩, ?_⟩
  · repeat' (first | apply And.intro | exact True.intro | exact Lf.mk (by with_reducible rfl) | apply Lf.mk)
    all_goals first | rfl | simp
  · rintro ⟨k, acc⟩ ⟨g1, g2, g3⟩
    dsimp only at g1 g2 g3
    repeat' (first | with_reducible apply andAll_cons | with_reducible apply andAll_nil | (with_reducible apply Cf.mk; kernel_rfl) | apply And.intro | intro _ | exact True.intro | apply Lf.mk)
    all_goals (try simp only [Bool.not_eq_true', Bool.not_eq_false', Bool.not_not, decide_eq_true_eq, decide_eq_false_iff_not, beq_iff_eq, bne_iff_ne, beq_eq_false_iff_ne, bne_eq_false_iff_eq, ne_eq, Bool.and_eq_true, Bool.and_eq_false_iff, Bool.or_eq_true, Bool.or_eq_false_iff, Int.toNat_natCast, Nat.zero_add, Int.ofNat_lt, Int.ofNat_le, List.length_cons, List.length_nil, List.drop_zero, List.take_length] at *)
    all_goals (try simp only [succ_nat', List.drop_zero, Nat.sub_zero] at *)
    all_goals first
      | omega
      | (show (_ + 1) * 16 ≤ 140737488355328; omega)
      | exact (hN _ (List.mem_of_mem_take (by assumption))).1
      | exact (hN _ (List.mem_of_mem_take (by assumption))).2
      | (rw [List.length_take]; omega)
      | exact congrArg Prod.fst (g3.symm.trans (cvG_bad (by omega) (by assumption)))
      | exact congrArg Prod.snd ((cvG_bad (by omega) (by assumption)).symm.trans g3)
      | exact (congrArg Prod.fst ((cvG_end (by omega)).symm.trans g3))
      | exact (congrArg Prod.snd ((cvG_end (by omega)).symm.trans g3))
      | skip
    refine ⟨(k + 1, acc ++ [(fcR ((cf n d).take (k + 1))).1]), ⟨by dsimp only; omega, by simp only [List.length_append, List.length_singleton]; omega, (cvG_ok (by omega) (by assumption)).symm.trans g3⟩, by dsimp only; omega, ?_⟩
    repeat' (first | apply And.intro | exact True.intro | exact Lf.mk (by with_reducible rfl) | apply Lf.mk)
    all_goals first | rfl | (rw [Int.natCast_add]; rfl)
end Go.Vx
