/- Maps: slopes, pieces and values. -/
import Derived.Test.YtlknhfldkkjclaaVxMapA
namespace Go.Vx
open Go Go.Proofs
set_option maxRecDepth 100000
set_option linter.unusedSimpArgs false
set_option linter.unusedVariables false

noncomputable def s_calc_slope : Sig := ⟨105, [.cell cT .bool, .val .pt, .val .pt], [.val .rat], fun ((c : Bool), (p : Pt), (q : Pt), _) => ⟨[ptOk p = true, ptOk q = true, ltR p.x q.x], (slR p q, ()), (c, ())⟩⟩
theorem ok_calc_slope : GSpec Try.prog s_calc_slope := by
  refine fn_known tab_ok fol ((Known.nil.cons ok_calc_sub (by kernel_rfl)).cons ok_calc_div (by kernel_rfl)) (by decide) Try.func105 ?_
  rintro ⟨(c : Bool), ⟨⟨(n : Int), (d : Int)⟩, ⟨(m : Int), (e : Int)⟩⟩, ⟨⟨(n' : Int), (d' : Int)⟩, ⟨(m' : Int), (e' : Int)⟩⟩, ⟨⟩⟩ hl ⟨h1, h2, h3, _⟩
  obtain ⟨s1, s2, s3⟩ := slR_ok h1 h2 h3
  have hp := ptOk_iff.1 h1
  have hq := ptOk_iff.1 h2
  obtain ⟨a1, a2, a3, a4⟩ := sub_coord hq.2 hp.2
  obtain ⟨b1, b2, b3, b4⟩ := sub_coord hq.1 hp.1
  have e1 := opR_t a1
  have e2 := opR_t b1
  have e3 := opR_t s1
  have g1 := coord_good hp.1
  have g2 := coord_good hp.2
  have g3 := coord_good hq.1
  have g4 := coord_good hq.2
  dsimp only at *
  repeat' (first | with_reducible apply andAll_cons | with_reducible apply andAll_nil | (with_reducible apply Cf.mk; kernel_rfl) | apply And.intro | intro _ | exact True.intro | apply Lf.mk)
  all_goals (try simp only [e1, e2, e3, a1, b1, s1, Bool.not_true, Bool.or_false] at *)
  all_goals first | assumption | rfl
noncomputable def s_spec_imSlope : Sig := ⟨76, [.val .pt, .val .pt], [.val .rat], fun ((p : Pt), (q : Pt), _) => ⟨[ptOk p = true, ptOk q = true, ltR p.x q.x], (slR p q, ()), ()⟩⟩
theorem ok_spec_imSlope : GSpec Try.prog s_spec_imSlope := by
  refine fn_known tab_ok fol ((Known.nil.cons ok_spec_raSub (by kernel_rfl)).cons ok_spec_raDiv (by kernel_rfl)) (by decide) Try.func76 ?_
  rintro ⟨⟨⟨(n : Int), (d : Int)⟩, ⟨(m : Int), (e : Int)⟩⟩, ⟨⟨(n' : Int), (d' : Int)⟩, ⟨(m' : Int), (e' : Int)⟩⟩, ⟨⟩⟩ hl ⟨h1, h2, h3, _⟩
  have hp := ptOk_iff.1 h1
  have hq := ptOk_iff.1 h2
  obtain ⟨a1, a2, a3, a4⟩ := sub_coord hq.2 hp.2
  obtain ⟨b1, b2, b3, b4⟩ := sub_coord hq.1 hp.1
  have g1 := ok_good (coord_good hp.1)
  have g2 := ok_good (coord_good hp.2)
  have g3 := ok_good (coord_good hq.1)
  have g4 := ok_good (coord_good hq.2)
  have g5 := ok_good a2
  have g6 := ok_good b2
  dsimp only at *
  repeat' (first | with_reducible apply andAll_cons | with_reducible apply andAll_nil | (with_reducible apply Cf.mk; kernel_rfl) | apply And.intro | intro _ | exact True.intro | apply Lf.mk)
  all_goals first | assumption | rfl
noncomputable def s_impl_slopes : Sig := ⟨87, [.list .pt], [.list 36 .rat], fun ((f : List Pt), _) => ⟨[mapOk f = true], (slL f (f.length - 1), ()), ()⟩⟩
theorem ok_impl_slopes : GSpec Try.prog s_impl_slopes := by
  refine fn_known tab_ok fol (Known.nil.cons ok_calc_slope (by kernel_rfl)) (by decide) Try.func87 ?_
  rintro ⟨(f : List Pt), ⟨⟩⟩ ⟨hl, _⟩ ⟨h1, _⟩
  have h2 := mapOk_iff.1 h1
  refine ⟨Nat, fun i => ⟨[(5, .sc (.num .i64 ((i : Int) + 1))), (4, .sc (.own 7777777))], [100000], [(7777777, .row 36 .rat (slL f i)), (3, .box cT [.bool false])]⟩, fun i => i + 1 ≤ f.length, fun i => f.length - i, ⟨0, by omega, ?_⟩, ?_⟩
  · repeat' (first | apply And.intro | exact True.intro | exact Lf.mk (by with_reducible rfl) | apply Lf.mk)
    all_goals first | rfl | simp
  · intro i g1
    have hm := slL_length f i
    repeat' (first | with_reducible apply andAll_cons | with_reducible apply andAll_nil | (with_reducible apply Cf.mk; kernel_rfl) | apply And.intro | intro _ | exact True.intro | apply Lf.mk)
    all_goals simp only [hm] at *
    all_goals (try simp only [Bool.not_eq_true', Bool.not_eq_false', Bool.not_not, decide_eq_true_eq, decide_eq_false_iff_not, beq_iff_eq, bne_iff_ne, beq_eq_false_iff_ne, bne_eq_false_iff_eq, ne_eq, Bool.and_eq_true, Bool.and_eq_false_iff, Bool.or_eq_true, Bool.or_eq_false_iff, Int.toNat_natCast, Nat.zero_add, Int.ofNat_lt, Int.ofNat_le, List.length_cons, List.length_nil, List.drop_zero, List.take_length] at *)
    all_goals (try simp only [show ((i : Int) + 1 - 1).toNat = i by omega, show ((i : Int) + 1).toNat = i + 1 by omega] at *)
    all_goals first
      | omega
      | exact map_pt h1 (by omega)
      | exact h2.2.2.2.2 i (by omega)
      | (show (_ + 1) * 16 ≤ 140737488355328; omega)
      | (rw [show i = f.length - 1 by omega]; done)
      | skip
    refine ⟨i + 1, by omega, by omega, ?_⟩
    repeat' (first | apply And.intro | exact True.intro | exact Lf.mk (by with_reducible rfl) | apply Lf.mk)
    all_goals first | rfl | (rw [Int.natCast_add]; rfl) | exact slL_succ f i
theorem idx_lo {α : Type} {p : α → Bool} {l : List α} : -9223372036854775808 ≤ idxF p l - 1 := by have := idxF_rng p l; omega
theorem idx_hi {α : Type} {p : α → Bool} {l : List α} (hl : l.length ≤ 9223372036854775807) : idxF p l - 1 ≤ 9223372036854775807 := by have := idxF_rng p l; omega
theorem if_toNat (a : Int) : (if a < 0 then 0 else a) = (a.toNat : Int) := by split <;> omega
theorem bE {P Q : Bool} (h : (bif P then Q else false) = true) : P = true ∧ Q = true := by revert h; cases P <;> cases Q <;> decide
theorem bF {P Q : Bool} (h : (bif P then Q else false) = false) (h2 : P = true) : Q = false := by revert h h2; cases P <;> cases Q <;> decide
theorem succ_nat (i : Nat) : ((i : Int) + 1).toNat = i + 1 := by omega
theorem cmp_lt' {a b : Rt} (h : decide (cmpRt a b < 0) = true) : ltR a b := cmpRt_neg.1 (of_decide_eq_true h)
theorem cmp_ge' {a b : Rt} (h : decide (cmpRt a b < 0) = false) : ¬ ltR a b := fun h2 => of_decide_eq_false h (cmpRt_neg.2 h2)
theorem mulRt_comm (a b : Rt) : mulRt a b = mulRt b a := by unfold mulRt; rw [Int.mul_comm a.num, Int.mul_comm a.den]
theorem on_bad {p : Pt} {s x : Rt} (h1 : (subRt x p.x).2 = true) (h : (mulRt (subRt x p.x).1 s).2 = false) : (⟨0, 0⟩, false) = lineR p s x := by
  rw [mulRt_comm] at h
  rw [lineR_2 h1 h]
theorem on_ok {p : Pt} {s x : Rt} (h1 : (subRt x p.x).2 = true) (h : (mulRt (subRt x p.x).1 s).2 = true) : addRt p.y (mulRt (subRt x p.x).1 s).1 = lineR p s x := by
  rw [mulRt_comm] at h ⊢
  rw [lineR_3 h1 h]
end Go.Vx
