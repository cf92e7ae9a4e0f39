/- The images of an interval, step by step: the program's functions and the reference's. -/
import Derived.Test.YtiklhpmlchalkaaVxIm
namespace Go.Vx
open Go Go.Proofs
set_option maxRecDepth 100000
set_option linter.unusedSimpArgs false
set_option linter.unusedVariables false

abbrev iT : Nat := 30
noncomputable def s_calc_images : Sig := ⟨76, [.cell cT .bool, .list .pt, .val .iv, .val NI], [.list iT .iv, .val .bool], fun ((c : Bool), (f : List Pt), (i : Iv), (n : Int), _) => ⟨[c = false, mapOk f = true, ivOk i = true, 0 ≤ n, n ≤ 12], ((imgs f i n.toNat).1, decide ((imgs f i n.toNat).2.2 = 2), ()), (decide ((imgs f i n.toNat).2.2 = 1), ())⟩⟩
noncomputable def s_spec_rnImages : Sig := ⟨65, [.list .pt, .val .iv, .val NI], [.list iT .iv, .val .bool], fun ((f : List Pt), (i : Iv), (n : Int), _) => ⟨[mapOk f = true, ivOk i = true, 0 ≤ n, n ≤ 12], ((imgs f i n.toNat).1, decide ((imgs f i n.toNat).2.2 = 0), ()), ()⟩⟩
theorem imgs_A {f : List Pt} {i : Iv} {j k : Nat} (g2 : (imgs f i j).2.2 = 0) (hj : j < k) (hB : imB f (imgs f i j).2.1.a (imgs f i j).2.1.b = true) (hE : eqRt (imO f (imgs f i j).2.1.a (imgs f i j).2.1.b).1 (imO f (imgs f i j).2.1.a (imgs f i j).2.1.b).2 = true) : imgs f i k = ([], (imgs f i j).2.1, 2) := by
  rw [eqRt_dec, decide_eq_true_eq] at hE
  have h := imgs_2 g2 hB hE
  rw [imgs_stay (k := j + 1) (by rw [h]; exact Nat.succ_ne_zero _) (by omega), h]
theorem imgs_B {f : List Pt} {i : Iv} {j k : Nat} (g2 : (imgs f i j).2.2 = 0) (hj : j < k) (hB : imB f (imgs f i j).2.1.a (imgs f i j).2.1.b = false) : imgs f i k = ([], (imgs f i j).2.1, 1) := by
  have h := imgs_1 g2 hB
  rw [imgs_stay (k := j + 1) (by rw [h]; exact Nat.succ_ne_zero _) (by omega), h]
theorem imgs_C {f : List Pt} {i : Iv} {j : Nat} (g2 : (imgs f i j).2.2 = 0) (hB : imB f (imgs f i j).2.1.a (imgs f i j).2.1.b = true) (hE : eqRt (imO f (imgs f i j).2.1.a (imgs f i j).2.1.b).1 (imO f (imgs f i j).2.1.a (imgs f i j).2.1.b).2 = false) : imgs f i (j + 1) = ((imgs f i j).1 ++ [⟨(imO f (imgs f i j).2.1.a (imgs f i j).2.1.b).1, (imO f (imgs f i j).2.1.a (imgs f i j).2.1.b).2⟩], ⟨(imO f (imgs f i j).2.1.a (imgs f i j).2.1.b).1, (imO f (imgs f i j).2.1.a (imgs f i j).2.1.b).2⟩, 0) := by
  rw [eqRt_dec, decide_eq_false_iff_not] at hE
  exact imgs_0 g2 hB hE
theorem fA1 {X : List Iv × Iv × Nat} {y : Iv} {n : Nat} (h : X = ([], y, n)) : X.1 = [] := by rw [h]
theorem fA2 {X : List Iv × Iv × Nat} {y : Iv} {B : Bool} (hB : B = true) (h : X = ([], y, 2)) : (!(false || !B)) = decide (X.2.2 = 2) := by rw [h, hB]; rfl
theorem fA3 {X : List Iv × Iv × Nat} {y : Iv} {B : Bool} (hB : B = true) (h : X = ([], y, 2)) : (false || !B) = decide (X.2.2 = 1) := by rw [h, hB]; rfl
theorem fB2 {X : List Iv × Iv × Nat} {y : Iv} {B : Bool} (hB : B = false) (h : X = ([], y, 1)) : (!(false || !B)) = decide (X.2.2 = 2) := by rw [h, hB]; rfl
theorem fB3 {X : List Iv × Iv × Nat} {y : Iv} {B : Bool} (hB : B = false) (h : X = ([], y, 1)) : (false || !B) = decide (X.2.2 = 1) := by rw [h, hB]; rfl
theorem fF {X : List Iv × Iv × Nat} {y : Iv} {n : Nat} (h : X = ([], y, n + 1)) : false = decide (X.2.2 = 0) := by rw [h]; rfl
theorem fF' {X : List Iv × Iv × Nat} {y : Iv} {n : Nat} (h : X = ([], y, n + 1)) : [] = X.1 := by rw [h]
theorem fC {B : Bool} (hB : B = true) : (false || !B) = false := by rw [hB]; rfl
theorem f0 {n m : Nat} (h : n = 0) : false = decide (n = m + 1) := by rw [h]; rfl
theorem ok_calc_images : GSpec Try.prog s_calc_images := by
  refine fn_known tab_ok fol (Known.nil.cons ok_calc_image (by kernel_rfl)) (by decide) Try.func76 ?_
  rintro ⟨(c : Bool), (f : List Pt), ⟨⟨(n : Int), (d : Int)⟩, ⟨(m : Int), (e : Int)⟩⟩, (k : Int), ⟨⟩⟩ ⟨hl, _⟩ ⟨hc, h1, h2, h3, h4, _⟩
  subst hc
  have hl : f.length ≤ 9223372036854775807 := hl
  obtain ⟨k, rfl⟩ := Int.eq_ofNat_of_zero_le h3
  refine ⟨Nat, fun j => ⟨[(15, .sc (.num .i64 j)), (8, .sc (.own 7777777))], [100000, 100001], [(6, .box iT [.num .i64 (imgs f ⟨⟨n, d⟩, ⟨m, e⟩⟩ j).2.1.a.num, .num .i64 (imgs f ⟨⟨n, d⟩, ⟨m, e⟩⟩ j).2.1.a.den, .num .i64 (imgs f ⟨⟨n, d⟩, ⟨m, e⟩⟩ j).2.1.b.num, .num .i64 (imgs f ⟨⟨n, d⟩, ⟨m, e⟩⟩ j).2.1.b.den]), (7777777, .row iT .iv (imgs f ⟨⟨n, d⟩, ⟨m, e⟩⟩ j).1)]⟩, fun j => j ≤ k ∧ (imgs f ⟨⟨n, d⟩, ⟨m, e⟩⟩ j).2.2 = 0, fun j => k - j, ⟨0, ⟨Nat.zero_le _, rfl⟩, ?_⟩, ?_⟩
  · repeat' (first | apply And.intro | exact True.intro | exact Lf.mk (by with_reducible rfl) | apply Lf.mk)
    all_goals rfl
  · rintro j ⟨g1, g2⟩
    obtain ⟨q1, q2, q3, q4⟩ := (imgs_inv h1 h2 j).1 g2
    obtain ⟨u1, u2, u3⟩ := ivOk_iff.1 q2
    obtain ⟨r1, r2, r3⟩ := imO_rg h1 u1 u2
    have r1 := unit_good r1
    have r2 := unit_good r2
    repeat' (first | with_reducible apply andAll_cons | with_reducible apply andAll_nil | (with_reducible apply Cf.mk; kernel_rfl) | apply And.intro | intro _ | exact True.intro | apply Lf.mk)
    all_goals (try simp only [Bool.not_eq_true', Bool.not_eq_false', Bool.not_not, decide_eq_true_eq, decide_eq_false_iff_not, beq_iff_eq, bne_iff_ne, beq_eq_false_iff_ne, bne_eq_false_iff_eq, ne_eq, Bool.and_eq_true, Bool.and_eq_false_iff, Bool.or_eq_true, Bool.or_eq_false_iff, Int.toNat_natCast, Nat.zero_add, Int.ofNat_lt, Int.ofNat_le, List.length_cons, List.length_nil, List.drop_zero, List.take_length] at *)
    all_goals first
      | omega
      | assumption
      | exact fA1 (imgs_A g2 (by assumption) (by assumption : True ∧ _).2 (by assumption))
      | exact fA2 (by assumption : True ∧ _).2 (imgs_A g2 (by assumption) (by assumption : True ∧ _).2 (by assumption))
      | exact fA3 (by assumption : True ∧ _).2 (imgs_A g2 (by assumption) (by assumption : True ∧ _).2 (by assumption))
      | exact fA1 (imgs_A g2 (by assumption) (by assumption) (by assumption))
      | exact fF (imgs_A g2 (by assumption) (by assumption) (by assumption))
      | exact fF' (imgs_A g2 (by assumption) (by assumption) (by assumption))
      | exact fF (imgs_B g2 (by assumption) (by assumption))
      | exact fF' (imgs_B g2 (by assumption) (by assumption))
      | (show (_ + 1) * 32 ≤ 140737488355328; omega)
      | exact fA1 (imgs_A g2 (by omega) (by assumption) (by assumption))
      | exact fF (imgs_A g2 (by omega) (by assumption) (by assumption))
      | exact fA1 (imgs_B g2 (by omega) (by assumption))
      | exact fF (imgs_B g2 (by omega) (by assumption))
      | exact fA1 (imgs_B g2 (by omega) ((by assumption : false = true ∨ _).resolve_left Bool.noConfusion))
      | exact fB2 ((by assumption : false = true ∨ _).resolve_left Bool.noConfusion) (imgs_B g2 (by omega) ((by assumption : false = true ∨ _).resolve_left Bool.noConfusion))
      | exact fB3 ((by assumption : false = true ∨ _).resolve_left Bool.noConfusion) (imgs_B g2 (by omega) ((by assumption : false = true ∨ _).resolve_left Bool.noConfusion))
      | (rw [show j = k by omega]; done)
      | (rw [← show j = k by omega]; exact f0 g2)
      | (rw [← show j = k by omega, g2]; rfl)
      | skip
    · have e := imgs_C g2 (by assumption : True ∧ _).2 (by assumption)
      refine ⟨j + 1, ⟨by omega, by rw [e]⟩, by omega, ?_⟩
      repeat' (first | apply And.intro | exact True.intro | exact Lf.mk (by with_reducible rfl) | apply Lf.mk)
      all_goals first | (rw [Int.natCast_add]; rfl) | exact fC (by assumption : True ∧ _).2 | (rw [e]; done) | (rw [e]; rfl) | (rw [Int.natCast_add]; omega) | skip
theorem imR_tt {f : List Pt} {a b : Rt} (h : imB f a b = true) : imR f a b = imO f a b := by unfold imR; rw [h]
theorem imgs_A2 {f : List Pt} {i : Iv} {j k : Nat} (g2 : (imgs f i j).2.2 = 0) (hj : j < k) (hB : imB f (imgs f i j).2.1.a (imgs f i j).2.1.b = true) (hE : eqRt (imR f (imgs f i j).2.1.a (imgs f i j).2.1.b).1 (imR f (imgs f i j).2.1.a (imgs f i j).2.1.b).2 = true) : imgs f i k = ([], (imgs f i j).2.1, 2) := by
  rw [imR_tt hB] at hE; exact imgs_A g2 hj hB hE
theorem imgs_C2 {f : List Pt} {i : Iv} {j : Nat} (g2 : (imgs f i j).2.2 = 0) (hB : imB f (imgs f i j).2.1.a (imgs f i j).2.1.b = true) (hE : eqRt (imR f (imgs f i j).2.1.a (imgs f i j).2.1.b).1 (imR f (imgs f i j).2.1.a (imgs f i j).2.1.b).2 = false) : imgs f i (j + 1) = ((imgs f i j).1 ++ [⟨(imR f (imgs f i j).2.1.a (imgs f i j).2.1.b).1, (imR f (imgs f i j).2.1.a (imgs f i j).2.1.b).2⟩], ⟨(imR f (imgs f i j).2.1.a (imgs f i j).2.1.b).1, (imR f (imgs f i j).2.1.a (imgs f i j).2.1.b).2⟩, 0) := by
  rw [imR_tt hB] at hE ⊢; exact imgs_C g2 hB hE
theorem ok_spec_rnImages : GSpec Try.prog s_spec_rnImages := by
  refine fn_known tab_ok fol (Known.nil.cons ok_spec_imImage (by kernel_rfl)) (by decide) Try.func65 ?_
  rintro ⟨(f : List Pt), ⟨⟨(n : Int), (d : Int)⟩, ⟨(m : Int), (e : Int)⟩⟩, (k : Int), ⟨⟩⟩ ⟨hl, _⟩ ⟨h1, h2, h3, h4, _⟩
  have hl : f.length ≤ 9223372036854775807 := hl
  obtain ⟨k, rfl⟩ := Int.eq_ofNat_of_zero_le h3
  refine ⟨Nat, fun j => ⟨[(2, .sc (.num .i64 ((k : Int) - j))), (8, .sc (.own 7777777))], [100000], [(4, .box iT [.num .i64 (imgs f ⟨⟨n, d⟩, ⟨m, e⟩⟩ j).2.1.a.num, .num .i64 (imgs f ⟨⟨n, d⟩, ⟨m, e⟩⟩ j).2.1.a.den, .num .i64 (imgs f ⟨⟨n, d⟩, ⟨m, e⟩⟩ j).2.1.b.num, .num .i64 (imgs f ⟨⟨n, d⟩, ⟨m, e⟩⟩ j).2.1.b.den]), (7777777, .row iT .iv (imgs f ⟨⟨n, d⟩, ⟨m, e⟩⟩ j).1)]⟩, fun j => j ≤ k ∧ (imgs f ⟨⟨n, d⟩, ⟨m, e⟩⟩ j).2.2 = 0, fun j => k - j, ⟨0, ⟨Nat.zero_le _, rfl⟩, ?_⟩, ?_⟩
  · repeat' (first | apply And.intro | exact True.intro | exact Lf.mk (by with_reducible rfl) | apply Lf.mk)
    all_goals first | rfl | omega | skip
  · rintro j ⟨g1, g2⟩
    obtain ⟨q1, q2, q3, q4⟩ := (imgs_inv h1 h2 j).1 g2
    obtain ⟨u1, u2, u3⟩ := ivOk_iff.1 q2
    obtain ⟨r1, r2, r3⟩ := imO_rg h1 u1 u2
    have r1 := unit_good r1
    have r2 := unit_good r2
    repeat' (first | with_reducible apply andAll_cons | with_reducible apply andAll_nil | (with_reducible apply Cf.mk; kernel_rfl) | apply And.intro | intro _ | exact True.intro | apply Lf.mk)
    all_goals (try simp only [Bool.not_eq_true', Bool.not_eq_false', Bool.not_not, decide_eq_true_eq, decide_eq_false_iff_not, beq_iff_eq, bne_iff_ne, beq_eq_false_iff_ne, bne_eq_false_iff_eq, ne_eq, Bool.and_eq_true, Bool.and_eq_false_iff, Bool.or_eq_true, Bool.or_eq_false_iff, Int.toNat_natCast, Nat.zero_add, Int.ofNat_lt, Int.ofNat_le, List.length_cons, List.length_nil, List.drop_zero, List.take_length] at *)
    all_goals first
      | omega
      | assumption
      | exact fA1 (imgs_A2 g2 (by assumption) (by assumption : True ∧ _).2 (by assumption))
      | exact fA2 (by assumption : True ∧ _).2 (imgs_A2 g2 (by assumption) (by assumption : True ∧ _).2 (by assumption))
      | exact fA3 (by assumption : True ∧ _).2 (imgs_A2 g2 (by assumption) (by assumption : True ∧ _).2 (by assumption))
      | exact fA1 (imgs_A2 g2 (by assumption) (by assumption) (by assumption))
      | exact fF (imgs_A2 g2 (by assumption) (by assumption) (by assumption))
      | exact fF' (imgs_A2 g2 (by assumption) (by assumption) (by assumption))
      | exact fF (imgs_B g2 (by assumption) (by assumption))
      | exact fF' (imgs_B g2 (by assumption) (by assumption))
      | (show (_ + 1) * 32 ≤ 140737488355328; omega)
      | exact fA1 (imgs_A2 g2 (by omega) (by assumption) (by assumption))
      | exact fF (imgs_A2 g2 (by omega) (by assumption) (by assumption))
      | exact fA1 (imgs_B g2 (by omega) (by assumption))
      | exact fF (imgs_B g2 (by omega) (by assumption))
      | exact fA1 (imgs_B g2 (by omega) ((by assumption : false = true ∨ _).resolve_left Bool.noConfusion))
      | exact fB2 ((by assumption : false = true ∨ _).resolve_left Bool.noConfusion) (imgs_B g2 (by omega) ((by assumption : false = true ∨ _).resolve_left Bool.noConfusion))
      | exact fB3 ((by assumption : false = true ∨ _).resolve_left Bool.noConfusion) (imgs_B g2 (by omega) ((by assumption : false = true ∨ _).resolve_left Bool.noConfusion))
      | (rw [show j = k by omega]; done)
      | (rw [← show j = k by omega]; exact f0 g2)
      | exact (decide_eq_true ((show j = k by omega) ▸ g2)).symm
      | skip
    · have e := imgs_C2 g2 (by assumption) (by assumption)
      refine ⟨j + 1, ⟨by omega, by rw [e]⟩, by omega, ?_⟩
      repeat' (first | apply And.intro | exact True.intro | exact Lf.mk (by with_reducible rfl) | apply Lf.mk)
      all_goals first | (rw [Int.natCast_add]; rfl) | exact fC (by assumption) | (rw [e]; done) | (rw [e]; rfl) | (rw [Int.natCast_add]; omega) | skip
noncomputable def s_impl_lies : Sig := ⟨67, [.val .iv, .val .iv], [.val .bool], fun ((i : Iv), (k : Iv), _) => ⟨[ivOk i = true, ivOk k = true], (liesR i k, ()), ()⟩⟩
noncomputable def s_spec_rnIn : Sig := ⟨66, [.val .iv, .val .iv], [.val .bool], fun ((i : Iv), (k : Iv), _) => ⟨[ivOk i = true, ivOk k = true], (liesR i k, ()), ()⟩⟩
theorem ok_impl_lies : GSpec Try.prog s_impl_lies := by
  refine fn_known tab_ok fol (Known.nil.cons ok_impl_less (by kernel_rfl)) (by decide) Try.func67 ?_
  rintro ⟨⟨⟨(n : Int), (d : Int)⟩, ⟨(m : Int), (e : Int)⟩⟩, ⟨⟨(n' : Int), (d' : Int)⟩, ⟨(m' : Int), (e' : Int)⟩⟩, ⟨⟩⟩ - ⟨h1, h2, _⟩
  obtain ⟨u1, u2, u3⟩ := ivOk_iff.1 h1
  obtain ⟨v1, v2, v3⟩ := ivOk_iff.1 h2
  repeat' (first | with_reducible apply andAll_cons | with_reducible apply andAll_nil | (with_reducible apply Cf.mk; kernel_rfl) | apply And.intro | intro _ | exact True.intro | apply Lf.mk)
  all_goals (try simp only [Bool.not_eq_true', Bool.not_eq_false', Bool.not_not, decide_eq_true_eq, decide_eq_false_iff_not, beq_iff_eq, bne_iff_ne, beq_eq_false_iff_ne, bne_eq_false_iff_eq, ne_eq, Bool.and_eq_true, Bool.and_eq_false_iff, Bool.or_eq_true, Bool.or_eq_false_iff, Int.toNat_natCast, Nat.zero_add, Int.ofNat_lt, Int.ofNat_le, List.length_cons, List.length_nil, List.drop_zero, List.take_length] at *)
  all_goals first | assumption | exact unit_good (by assumption) | (simp_all [liesR, cmp_lt_less, cmp_le_less, cmp_le_iff, cmp_lt_iff]; done) | skip
theorem ok_spec_rnIn : GSpec Try.prog s_spec_rnIn := by
  refine fn_known tab_ok fol (Known.nil.cons ok_spec_raCmp (by kernel_rfl)) (by decide) Try.func66 ?_
  rintro ⟨⟨⟨(n : Int), (d : Int)⟩, ⟨(m : Int), (e : Int)⟩⟩, ⟨⟨(n' : Int), (d' : Int)⟩, ⟨(m' : Int), (e' : Int)⟩⟩, ⟨⟩⟩ - ⟨h1, h2, _⟩
  obtain ⟨u1, u2, u3⟩ := ivOk_iff.1 h1
  obtain ⟨v1, v2, v3⟩ := ivOk_iff.1 h2
  repeat' (first | with_reducible apply andAll_cons | with_reducible apply andAll_nil | (with_reducible apply Cf.mk; kernel_rfl) | apply And.intro | intro _ | exact True.intro | apply Lf.mk)
  all_goals (try simp only [Bool.not_eq_true', Bool.not_eq_false', Bool.not_not, decide_eq_true_eq, decide_eq_false_iff_not, beq_iff_eq, bne_iff_ne, beq_eq_false_iff_ne, bne_eq_false_iff_eq, ne_eq, Bool.and_eq_true, Bool.and_eq_false_iff, Bool.or_eq_true, Bool.or_eq_false_iff, Int.toNat_natCast, Nat.zero_add, Int.ofNat_lt, Int.ofNat_le, List.length_cons, List.length_nil, List.drop_zero, List.take_length] at *)
  all_goals first | assumption | exact unit_good (by assumption) | (simp_all [liesR, cmp_lt_less, cmp_le_less, cmp_le_iff, cmp_lt_iff]; done) | skip
noncomputable def cutR (i k : Iv) : Iv := match meetR i k with | true => ⟨grR i.a k.a, lsR i.b k.b⟩ | false => ⟨⟨0, 0⟩, ⟨0, 0⟩⟩
noncomputable def s_impl_common : Sig := ⟨73, [.val .iv, .val .iv], [.val .iv, .val .bool], fun ((i : Iv), (k : Iv), _) => ⟨[ivOk i = true, ivOk k = true], (cutR i k, meetR i k, ()), ()⟩⟩
noncomputable def s_spec_ivSeparate : Sig := ⟨69, [.val .iv, .val .iv], [.val .bool], fun ((i : Iv), (k : Iv), _) => ⟨[ivOk i = true, ivOk k = true], (sepR i k, ()), ()⟩⟩
theorem ok_impl_common : GSpec Try.prog s_impl_common := by
  refine fn_known tab_ok fol (((Known.nil.cons ok_impl_less (by kernel_rfl)).cons ok_impl_lesser (by kernel_rfl)).cons ok_impl_greater (by kernel_rfl)) (by decide) Try.func73 ?_
  rintro ⟨⟨⟨(n : Int), (d : Int)⟩, ⟨(m : Int), (e : Int)⟩⟩, ⟨⟨(n' : Int), (d' : Int)⟩, ⟨(m' : Int), (e' : Int)⟩⟩, ⟨⟩⟩ - ⟨h1, h2, _⟩
  obtain ⟨u1, u2, u3⟩ := ivOk_iff.1 h1
  obtain ⟨v1, v2, v3⟩ := ivOk_iff.1 h2
  have w1 := unit_good (grR_unit u1 v1)
  have w2 := unit_good (lsR_unit u2 v2)
  repeat' (first | with_reducible apply andAll_cons | with_reducible apply andAll_nil | (with_reducible apply Cf.mk; kernel_rfl) | apply And.intro | intro _ | exact True.intro | apply Lf.mk)
  all_goals (try simp only [Bool.not_eq_true', Bool.not_eq_false', Bool.not_not, decide_eq_true_eq, decide_eq_false_iff_not, beq_iff_eq, bne_iff_ne, beq_eq_false_iff_ne, bne_eq_false_iff_eq, ne_eq, Bool.and_eq_true, Bool.and_eq_false_iff, Bool.or_eq_true, Bool.or_eq_false_iff, Int.toNat_natCast, Nat.zero_add, Int.ofNat_lt, Int.ofNat_le, List.length_cons, List.length_nil, List.drop_zero, List.take_length] at *)
  all_goals first | assumption | exact unit_good (by assumption) | (simp_all [cutR, meetR]; done) | skip
theorem ok_spec_ivSeparate : GSpec Try.prog s_spec_ivSeparate := by
  refine fn_known tab_ok fol (Known.nil.cons ok_spec_raCmp (by kernel_rfl)) (by decide) Try.func69 ?_
  rintro ⟨⟨⟨(n : Int), (d : Int)⟩, ⟨(m : Int), (e : Int)⟩⟩, ⟨⟨(n' : Int), (d' : Int)⟩, ⟨(m' : Int), (e' : Int)⟩⟩, ⟨⟩⟩ - ⟨h1, h2, _⟩
  obtain ⟨u1, u2, u3⟩ := ivOk_iff.1 h1
  obtain ⟨v1, v2, v3⟩ := ivOk_iff.1 h2
  repeat' (first | with_reducible apply andAll_cons | with_reducible apply andAll_nil | (with_reducible apply Cf.mk; kernel_rfl) | apply And.intro | intro _ | exact True.intro | apply Lf.mk)
  all_goals (try simp only [Bool.not_eq_true', Bool.not_eq_false', Bool.not_not, decide_eq_true_eq, decide_eq_false_iff_not, beq_iff_eq, bne_iff_ne, beq_eq_false_iff_ne, bne_eq_false_iff_eq, ne_eq, Bool.and_eq_true, Bool.and_eq_false_iff, Bool.or_eq_true, Bool.or_eq_false_iff, Int.toNat_natCast, Nat.zero_add, Int.ofNat_lt, Int.ofNat_le, List.length_cons, List.length_nil, List.drop_zero, List.take_length] at *)
  all_goals first | assumption | exact unit_good (by assumption) | (simp_all [sepR, cmp_lt_less, cmp_le_less, cmp_le_iff, cmp_lt_iff]; done) | skip
end Go.Vx
