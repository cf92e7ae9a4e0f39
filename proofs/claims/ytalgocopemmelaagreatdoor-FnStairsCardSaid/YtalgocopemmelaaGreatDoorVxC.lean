/- Fractions in lowest terms: the program's functions and the reference's return the same. -/
import Derived.Test.YtalgocopemmelaaGreatDoorVxA
namespace Go.Vx
open Go Go.Proofs
set_option maxRecDepth 100000
set_option linter.unusedSimpArgs false
set_option linter.unusedVariables false

theorem lowRt_t {n d : Int} (h : goodRt ⟨n.tdiv (gsgn n d), d.tdiv (gsgn n d)⟩ = true) : lowRt n d = (⟨n.tdiv (gsgn n d), d.tdiv (gsgn n d)⟩, true) := by
  unfold lowRt; rw [h]
theorem lowRt_f {n d : Int} (h : goodRt ⟨n.tdiv (gsgn n d), d.tdiv (gsgn n d)⟩ = false) : lowRt n d = (⟨0, 0⟩, false) := by
  unfold lowRt; rw [h]
theorem lowRt_zero {n : Int} : lowRt n 0 = (⟨0, 0⟩, false) := by
  apply lowRt_f
  rw [Bool.eq_false_iff, ne_eq, goodRt_iff]
  simp
theorem tdiv_bd {n g : Int} : (n.tdiv g).natAbs ≤ n.natAbs := by
  rw [Int.natAbs_tdiv]; exact Nat.div_le_self _ _
theorem tdiv_in {n g : Int} (h : -9223372036854775808 < n) (h' : n ≤ 9223372036854775807) : inI64 (n.tdiv g) := by
  have := @tdiv_bd n g
  constructor <;> omega
theorem gsgn_ne {n d : Int} (h : d ≠ 0) : gsgn n d ≠ 0 := by
  have : Int.gcd n d ≠ 0 := by intro h2; exact h (Int.gcd_eq_zero_iff.1 h2).2
  unfold gsgn; split <;> omega
theorem gcd_nn (a b : Int) : Int.gcd (a.natAbs : Int) (b.natAbs : Int) = Int.gcd a b := by simp [Int.gcd]
theorem gcd_bd {n d : Int} (h : d ≠ 0) : (Int.gcd n d : Int) ≤ d.natAbs := by
  have := Nat.le_of_dvd (Int.natAbs_pos.2 h) (Nat.gcd_dvd_right n.natAbs d.natAbs)
  exact Int.ofNat_le.2 this

noncomputable def s_impl_lowest : Sig := ⟨66, [.val NI, .val NI], [.val .rat, .val .bool], fun ((n : Int), (d : Int), _) => ⟨[d ≠ 0, -9223372036854775808 < n, n ≤ 9223372036854775807, -9223372036854775808 < d, d ≤ 9223372036854775807], ((lowRt n d).1, (lowRt n d).2, ()), ()⟩⟩
noncomputable def s_spec_raMake : Sig := ⟨71, [.val NI, .val NI], [.val .rat, .val .bool], fun ((n : Int), (d : Int), _) => ⟨[-9223372036854775808 < n, n ≤ 9223372036854775807, -9223372036854775808 < d, d ≤ 9223372036854775807], ((lowRt n d).1, (lowRt n d).2, ()), ()⟩⟩

theorem gsgn_neg {n d : Int} (h : d < 0) : gsgn n d = 0 - (Int.gcd n d : Int) := by unfold gsgn; rw [if_pos h]; omega
theorem gsgn_pos {n d : Int} (h : ¬ d < 0) : gsgn n d = (Int.gcd n d : Int) := by unfold gsgn; rw [if_neg h]

theorem ok_impl_lowest : GSpec Tryz.prog s_impl_lowest := by
  refine fn_known tab_ok fol ((Known.nil.cons ok_impl_greatestDivisor (by kernel_rfl)).cons ok_impl_isRat (by kernel_rfl)) (by decide) Tryz.func66 ?_
  rintro ⟨(n : Int), (d : Int), ⟨⟩⟩ hl ⟨h1, h2, h3, h4, h5, _⟩
  have h6 := gcd_bd (n := n) h1
  have h7 := gsgn_ne (n := n) h1
  repeat' (first | with_reducible apply andAll_cons | with_reducible apply andAll_nil | (with_reducible apply Cf.mk; kernel_rfl) | apply And.intro | intro _ | exact True.intro | apply Lf.mk)
  all_goals (try simp only [Bool.not_eq_true', Bool.not_eq_false', Bool.not_not, decide_eq_true_eq, decide_eq_false_iff_not, beq_iff_eq, bne_iff_ne, beq_eq_false_iff_ne, bne_eq_false_iff_eq, ne_eq, Bool.and_eq_true, Bool.and_eq_false_iff, Bool.or_eq_true, Bool.or_eq_false_iff, Int.toNat_natCast, Nat.zero_add, Int.ofNat_lt, Int.ofNat_le, List.length_cons, List.length_nil, List.drop_zero, List.take_length] at *)
  all_goals first
    | omega
    | exact (tdiv_in h2 h3).1 | exact (tdiv_in h2 h3).2 | exact (tdiv_in h4 h5).1 | exact (tdiv_in h4 h5).2
    | exact h7 (by rw [gsgn_neg (by assumption)]; assumption) | exact h7 (by rw [gsgn_pos (by assumption)]; assumption)
    | rw [lowRt_f (by rw [gsgn_neg (by assumption)]; assumption)]
    | rw [lowRt_f (by rw [gsgn_pos (by assumption)]; assumption)]
    | (rw [lowRt_t (by rw [gsgn_neg (by assumption)]; assumption)]; rw [gsgn_neg (by assumption)])
    | (rw [lowRt_t (by rw [gsgn_pos (by assumption)]; assumption)]; rw [gsgn_pos (by assumption)])
    | rw [lowRt_t (by rw [gsgn_neg (by assumption)]; assumption)]
    | rw [lowRt_t (by rw [gsgn_pos (by assumption)]; assumption)]

theorem ok_spec_raMake : GSpec Tryz.prog s_spec_raMake := by
  refine fn_known tab_ok fol (((Known.nil.cons ok_spec_raCommon (by kernel_rfl)).cons ok_spec_l1Abs (by kernel_rfl)).cons ok_spec_raGood (by kernel_rfl)) (by decide) Tryz.func71 ?_
  rintro ⟨(n : Int), (d : Int), ⟨⟩⟩ hl ⟨h1, h2, h3, h4, _⟩
  have h6 := fun h => gcd_bd (n := n) (d := d) h
  have h7 := fun h => gsgn_ne (n := n) (d := d) h
  have h8 := gcd_nn n d
  repeat' (first | with_reducible apply andAll_cons | with_reducible apply andAll_nil | (with_reducible apply Cf.mk; kernel_rfl) | apply And.intro | intro _ | exact True.intro | apply Lf.mk)
  all_goals (try simp only [Bool.not_eq_true', Bool.not_eq_false', Bool.not_not, decide_eq_true_eq, decide_eq_false_iff_not, beq_iff_eq, bne_iff_ne, beq_eq_false_iff_ne, bne_eq_false_iff_eq, ne_eq, Bool.and_eq_true, Bool.and_eq_false_iff, Bool.or_eq_true, Bool.or_eq_false_iff, Int.toNat_natCast, Nat.zero_add, Int.ofNat_lt, Int.ofNat_le, List.length_cons, List.length_nil, List.drop_zero, List.take_length] at *)
  all_goals (try rw [h8] at *)
  all_goals first
    | omega
    | exact (tdiv_in h1 h2).1 | exact (tdiv_in h1 h2).2 | exact (tdiv_in h3 h4).1 | exact (tdiv_in h3 h4).2
    | (rename_i h8; rw [h8, lowRt_zero])
    | exact h7 (by assumption) (by rw [gsgn_neg (by assumption)]; assumption) | exact h7 (by assumption) (by rw [gsgn_pos (by assumption)]; assumption)
    | rw [lowRt_f (by rw [gsgn_neg (by assumption)]; assumption)]
    | rw [lowRt_f (by rw [gsgn_pos (by assumption)]; assumption)]
    | (rw [lowRt_t (by rw [gsgn_neg (by assumption)]; assumption)]; rw [gsgn_neg (by assumption)])
    | (rw [lowRt_t (by rw [gsgn_pos (by assumption)]; assumption)]; rw [gsgn_pos (by assumption)])
    | rw [lowRt_t (by rw [gsgn_neg (by assumption)]; assumption)]
    | rw [lowRt_t (by rw [gsgn_pos (by assumption)]; assumption)]
end Go.Vx
