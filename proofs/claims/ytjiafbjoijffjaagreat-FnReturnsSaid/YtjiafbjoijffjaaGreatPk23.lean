/- Returns of intervals: the program's functions and the reference's. -/
import Derived.Test.YtjiafbjoijffjaaGreatPk22
namespace Go.Vx
open Go Go.Proofs
set_option maxRecDepth 100000
set_option linter.unusedSimpArgs false
set_option linter.unusedVariables false

abbrev iT : Nat := 28
noncomputable def s_calc_images : Sig := ⟨72, [.cell cT .bool, .list .pt, .val .iv, .val NI], [.list iT .iv, .val .bool], fun ((c : Bool), (f : List Pt), (i : Iv), (n : Int), _) => ⟨[c = false, mapOk f = true, ivOk i = true, 0 ≤ n, n ≤ 12], ((imgs f i n.toNat).1, decide ((imgs f i n.toNat).2.2 = 2), ()), (decide ((imgs f i n.toNat).2.2 = 1), ())⟩⟩
noncomputable def s_spec_rnImages : Sig := ⟨73, [.list .pt, .val .iv, .val NI], [.list iT .iv, .val .bool], fun ((f : List Pt), (i : Iv), (n : Int), _) => ⟨[mapOk f = true, ivOk i = true, 0 ≤ n, n ≤ 12], ((imgs f i n.toNat).1, decide ((imgs f i n.toNat).2.2 = 0), ()), ()⟩⟩
theorem imgs_A {f : List Pt} {i : Iv} {j k : Nat} (g2 : (imgs f i j).2.2 = 0) (hj : j < k) (hB : imB f (imgs f i j).2.1.a (imgs f i j).2.1.b = true) (hE : eqRt (imO f (imgs f i j).2.1.a (imgs f i j).2.1.b).1 (imO f (imgs f i j).2.1.a (imgs f i j).2.1.b).2 = true) : imgs f i k = ([], (imgs f i j).2.1, 2) := by
  rw [eqRt_dec, decide_eq_true_eq] at hE
  have h := imgs_2 g2 hB hE
  rw [imgs_stay (k := j + 1) (by rw [h]; exact Nat.succ_ne_zero _) (by omega), h]
theorem imgs_B {f : List Pt} {i : Iv} {j k : Nat} (g2 : (imgs f i j).2.2 = 0) (hj : j < k) (hB : imB f (imgs f i j).2.1.a (imgs f i j).2.1.b = false) : imgs f i k = ([], (imgs f i j).2.1, 1) := by
  have h := imgs_1 g2 hB
  rw [imgs_stay (k := j + 1) (by rw [h]; exact Nat.succ_ne_zero _) (by omega), h]
theorem imgs_C {f : List Pt} {i : Iv} {j : Nat} (g2 : (imgs f i j).2.2 = 0) (hB : imB f (imgs f i j).2.1.a (imgs f i j).2.1.b = true) (hE : eqRt (imO f (imgs f i j).2.1.a (imgs f i j).2.1.b).1 (imO f (imgs f i j).2.1.a (imgs f i j).2.1.b).2 = false) : imgs f i (j + 1) = ((imgs f i j).1 ++ [⟨(imO f (imgs f i j).2.1.a (imgs f i j).2.1.b).1, (imO f (imgs f i j).2.1.a (imgs f i j).2.1.b).2⟩], ⟨(imO f (imgs f i j).2.1.a (imgs f i j).2.1.b).1, (imO f (imgs f i j).2.1.a (imgs f i j).2.1.b).2⟩, 0) := by
  rw [eqRt_dec, decide_eq_false_iff_not] at hE
  exact imgs_0 g2 hB hE
theorem fA1 {X : List Iv × Iv × Nat} {y : Iv} {n : Nat} (h : X = ([], y, n)) : X.1 = [] := by rw [h]
theorem fA2 {X : List Iv × Iv × Nat} {y : Iv} {B : Bool} (hB : B = true) (h : X = ([], y, 2)) : (!(false || !B)) = decide (X.2.2 = 2) := by rw [h, hB]; rfl
theorem fA3 {X : List Iv × Iv × Nat} {y : Iv} {B : Bool} (hB : B = true) (h : X = ([], y, 2)) : (false || !B) = decide (X.2.2 = 1) := by rw [h, hB]; rfl
theorem fB2 {X : List Iv × Iv × Nat} {y : Iv} {B : Bool} (hB : B = false) (h : X = ([], y, 1)) : (!(false || !B)) = decide (X.2.2 = 2) := by rw [h, hB]; rfl
theorem fB3 {X : List Iv × Iv × Nat} {y : Iv} {B : Bool} (hB : B = false) (h : X = ([], y, 1)) : (false || !B) = decide (X.2.2 = 1) := by rw [h, hB]; rfl
theorem fF {X : List Iv × Iv × Nat} {y : Iv} {n : Nat} (h : X = ([], y, n + 1)) : false = decide (X.2.2 = 0) := by rw [h]; rfl
theorem fF' {X : List Iv × Iv × Nat} {y : Iv} {n : Nat} (h : X = ([], y, n + 1)) : [] = X.1 := by rw [h]
theorem fC {B : Bool} (hB : B = true) : (false || !B) = false := by rw [hB]; rfl
theorem f0 {n m : Nat} (h : n = 0) : false = decide (n = m + 1) := by rw [h]; rfl
theorem ok_calc_images : GSpec Tryz.prog s_calc_images := by
  refine fn_known tab_ok fol (Known.nil.cons ok_calc_image (by kernel_rfl)) (by decide) Tryz.func72 ?_
  rintro ⟨(c : Bool), (f : List Pt), ⟨⟨(n : Int), (d : Int)⟩, ⟨(m : Int), (e : Int)⟩⟩, (k : Int), ⟨⟩⟩ ⟨hl, _⟩ ⟨hc, h1, h2, h3, h4, _⟩
  subst hc
  have hl : f.length ≤ 9223372036854775807 := hl
  obtain ⟨k, rfl⟩ := Int.eq_ofNat_of_zero_le h3
  refine ⟨Nat, fun j => ⟨[(15, .sc (.num .i64 j)), (8, .sc (.own 7777777))], [100000, 100001], [(6, .box iT [.num .i64 (imgs f ⟨⟨n, d⟩, ⟨m, e⟩⟩ j).2.1.a.num, .num .i64 (imgs f ⟨⟨n, d⟩, ⟨m, e⟩⟩ j).2.1.a.den, .num .i64 (imgs f ⟨⟨n, d⟩, ⟨m, e⟩⟩ j).2.1.b.num, .num .i64 (imgs f ⟨⟨n, d⟩, ⟨m, e⟩⟩ j).2.1.b.den]), (7777777, .row iT .iv (imgs f ⟨⟨n, d⟩, ⟨m, e⟩⟩ j).1)]⟩, fun j => j ≤ k ∧ (imgs f ⟨⟨n, d⟩, ⟨m, e⟩⟩ j).2.2 = 0, fun j => k - j, ⟨0, ⟨Nat.zero_le _, rfl⟩, ?_⟩, ?_⟩
  · repeat' (first | apply And.intro | exact True.intro | exact Lf.mk (by with_reducible rfl) | apply Lf.mk)
    all_goals rfl
  · rintro j ⟨g1, g2⟩
    obtain ⟨q1, q2, q3, q4⟩ := (imgs_inv h1 h2 j).1 g2
    obtain ⟨u1, u2, u3⟩ := ivOk_iff.1 q2
    obtain ⟨r1, r2, r3⟩ := imO_rg h1 u1 u2
    have r1 := unit_good r1
    have r2 := unit_good r2
    repeat' (first | with_reducible apply andAll_cons | with_reducible apply andAll_nil | (with_reducible apply Cf.mk; kernel_rfl) | apply And.intro | intro _ | exact True.intro | apply Lf.mk)
    all_goals (try simp only [Bool.not_eq_true', Bool.not_eq_false', Bool.not_not, decide_eq_true_eq, decide_eq_false_iff_not, beq_iff_eq, bne_iff_ne, beq_eq_false_iff_ne, bne_eq_false_iff_eq, ne_eq, Bool.and_eq_true, Bool.and_eq_false_iff, Bool.or_eq_true, Bool.or_eq_false_iff, Int.toNat_natCast, Nat.zero_add, Int.ofNat_lt, Int.ofNat_le, List.length_cons, List.length_nil, List.drop_zero, List.take_length] at *)
    all_goals first
      | omega
      | assumption
      | exact fA1 (imgs_A g2 (by assumption) (by assumption : True ∧ _).2 (by assumption))
      | exact fA2 (by assumption : True ∧ _).2 (imgs_A g2 (by assumption) (by assumption : True ∧ _).2 (by assumption))
      | exact fA3 (by assumption : True ∧ _).2 (imgs_A g2 (by assumption) (by assumption : True ∧ _).2 (by assumption))
      | exact fA1 (imgs_A g2 (by assumption) (by assumption) (by assumption))
      | exact fF (imgs_A g2 (by assumption) (by assumption) (by assumption))
      | exact fF' (imgs_A g2 (by assumption) (by assumption) (by assumption))
      | exact fF (imgs_B g2 (by assumption) (by assumption))
      | exact fF' (imgs_B g2 (by assumption) (by assumption))
      | (show (_ + 1) * 32 ≤ 140737488355328; omega)
      | exact fA1 (imgs_A g2 (by omega) (by assumption) (by assumption))
      | exact fF (imgs_A g2 (by omega) (by assumption) (by assumption))
      | exact fA1 (imgs_B g2 (by omega) (by assumption))
      | exact fF (imgs_B g2 (by omega) (by assumption))
      | exact fA1 (imgs_B g2 (by omega) ((by assumption : false = true ∨ _).resolve_left Bool.noConfusion))
      | exact fB2 ((by assumption : false = true ∨ _).resolve_left Bool.noConfusion) (imgs_B g2 (by omega) ((by assumption : false = true ∨ _).resolve_left Bool.noConfusion))
      | exact fB3 ((by assumption : false = true ∨ _).resolve_left Bool.noConfusion) (imgs_B g2 (by omega) ((by assumption : false = true ∨ _).resolve_left Bool.noConfusion))
      | (rw [show j = k by omega]; done)
      | (rw [← show j = k by omega]; exact f0 g2)
      | (rw [← show j = k by omega, g2]; rfl)
      | skip
    · have e := imgs_C g2 (by assumption : True ∧ _).2 (by assumption)
      refine ⟨j + 1, ⟨by omega, by rw [e]⟩, by omega, ?_⟩
      repeat' (first | apply And.intro | exact True.intro | exact Lf.mk (by with_reducible rfl) | apply Lf.mk)
      all_goals first | (rw [Int.natCast_add]; rfl) | exact fC (by assumption : True ∧ _).2 | (rw [e]; done) | (rw [e]; rfl) | (rw [Int.natCast_add]; omega) | skip
theorem imR_tt {f : List Pt} {a b : Rt} (h : imB f a b = true) : imR f a b = imO f a b := by unfold imR; rw [h]
theorem imgs_A2 {f : List Pt} {i : Iv} {j k : Nat} (g2 : (imgs f i j).2.2 = 0) (hj : j < k) (hB : imB f (imgs f i j).2.1.a (imgs f i j).2.1.b = true) (hE : eqRt (imR f (imgs f i j).2.1.a (imgs f i j).2.1.b).1 (imR f (imgs f i j).2.1.a (imgs f i j).2.1.b).2 = true) : imgs f i k = ([], (imgs f i j).2.1, 2) := by
  rw [imR_tt hB] at hE; exact imgs_A g2 hj hB hE
theorem imgs_C2 {f : List Pt} {i : Iv} {j : Nat} (g2 : (imgs f i j).2.2 = 0) (hB : imB f (imgs f i j).2.1.a (imgs f i j).2.1.b = true) (hE : eqRt (imR f (imgs f i j).2.1.a (imgs f i j).2.1.b).1 (imR f (imgs f i j).2.1.a (imgs f i j).2.1.b).2 = false) : imgs f i (j + 1) = ((imgs f i j).1 ++ [⟨(imR f (imgs f i j).2.1.a (imgs f i j).2.1.b).1, (imR f (imgs f i j).2.1.a (imgs f i j).2.1.b).2⟩], ⟨(imR f (imgs f i j).2.1.a (imgs f i j).2.1.b).1, (imR f (imgs f i j).2.1.a (imgs f i j).2.1.b).2⟩, 0) := by
  rw [imR_tt hB] at hE ⊢; exact imgs_C g2 hB hE
theorem ok_spec_rnImages : GSpec Tryz.prog s_spec_rnImages := by
  refine fn_known tab_ok fol (Known.nil.cons ok_spec_imImage (by kernel_rfl)) (by decide) Tryz.func73 ?_
  rintro ⟨(f : List Pt), ⟨⟨(n : Int), (d : Int)⟩, ⟨(m : Int), (e : Int)⟩⟩, (k : Int), ⟨⟩⟩ ⟨hl, _⟩ ⟨h1, h2, h3, h4, _⟩
  have hl : f.length ≤ 9223372036854775807 := hl
  obtain ⟨k, rfl⟩ := Int.eq_ofNat_of_zero_le h3
  refine ⟨Nat, fun j => ⟨[(2, .sc (.num .i64 ((k : Int) - j))), (8, .sc (.own 7777777))], [100000], [(4, .box iT [.num .i64 (imgs f ⟨⟨n, d⟩, ⟨m, e⟩⟩ j).2.1.a.num, .num .i64 (imgs f ⟨⟨n, d⟩, ⟨m, e⟩⟩ j).2.1.a.den, .num .i64 (imgs f ⟨⟨n, d⟩, ⟨m, e⟩⟩ j).2.1.b.num, .num .i64 (imgs f ⟨⟨n, d⟩, ⟨m, e⟩⟩ j).2.1.b.den]), (7777777, .row iT .iv (imgs f ⟨⟨n, d⟩, ⟨m, e⟩⟩ j).1)]⟩, fun j => j ≤ k ∧ (imgs f ⟨⟨n, d⟩, ⟨m, e⟩⟩ j).2.2 = 0, fun j => k - j, ⟨0, ⟨Nat.zero_le _, rfl⟩, ?_⟩, ?_⟩
  · repeat' (first | apply And.intro | exact True.intro | exact Lf.mk (by with_reducible rfl) | apply Lf.mk)
    all_goals first | rfl | omega | skip
  · rintro j ⟨g1, g2⟩
    obtain ⟨q1, q2, q3, q4⟩ := (imgs_inv h1 h2 j).1 g2
    obtain ⟨u1, u2, u3⟩ := ivOk_iff.1 q2
    obtain ⟨r1, r2, r3⟩ := imO_rg h1 u1 u2
    have r1 := unit_good r1
    have r2 := unit_good r2
    repeat' (first | with_reducible apply andAll_cons | with_reducible apply andAll_nil | (with_reducible apply Cf.mk; kernel_rfl) | apply And.intro | intro _ | exact True.intro | apply Lf.mk)
    all_goals (try simp only [Bool.not_eq_true', Bool.not_eq_false', Bool.not_not, decide_eq_true_eq, decide_eq_false_iff_not, beq_iff_eq, bne_iff_ne, beq_eq_false_iff_ne, bne_eq_false_iff_eq, ne_eq, Bool.and_eq_true, Bool.and_eq_false_iff, Bool.or_eq_true, Bool.or_eq_false_iff, Int.toNat_natCast, Nat.zero_add, Int.ofNat_lt, Int.ofNat_le, List.length_cons, List.length_nil, List.drop_zero, List.take_length] at *)
    all_goals first
      | omega
      | assumption
      | exact fA1 (imgs_A2 g2 (by assumption) (by assumption : True ∧ _).2 (by assumption))
      | exact fA2 (by assumption : True ∧ _).2 (imgs_A2 g2 (by assumption) (by assumption : True ∧ _).2 (by assumption))
      | exact fA3 (by assumption : True ∧ _).2 (imgs_A2 g2 (by assumption) (by assumption : True ∧ _).2 (by assumption))
      | exact fA1 (imgs_A2 g2 (by assumption) (by assumption) (by assumption))
      | exact fF (imgs_A2 g2 (by assumption) (by assumption) (by assumption))
      | exact fF' (imgs_A2 g2 (by assumption) (by assumption) (by assumption))
      | exact fF (imgs_B g2 (by assumption) (by assumption))
      | exact fF' (imgs_B g2 (by assumption) (by assumption))
      | (show (_ + 1) * 32 ≤ 140737488355328; omega)
      | exact fA1 (imgs_A2 g2 (by omega) (by assumption) (by assumption))
      | exact fF (imgs_A2 g2 (by omega) (by assumption) (by assumption))
      | exact fA1 (imgs_B g2 (by omega) (by assumption))
      | exact fF (imgs_B g2 (by omega) (by assumption))
      | exact fA1 (imgs_B g2 (by omega) ((by assumption : false = true ∨ _).resolve_left Bool.noConfusion))
      | exact fB2 ((by assumption : false = true ∨ _).resolve_left Bool.noConfusion) (imgs_B g2 (by omega) ((by assumption : false = true ∨ _).resolve_left Bool.noConfusion))
      | exact fB3 ((by assumption : false = true ∨ _).resolve_left Bool.noConfusion) (imgs_B g2 (by omega) ((by assumption : false = true ∨ _).resolve_left Bool.noConfusion))
      | (rw [show j = k by omega]; done)
      | (rw [← show j = k by omega]; exact f0 g2)
      | exact (decide_eq_true ((show j = k by omega) ▸ g2)).symm
      | skip
    · have e := imgs_C2 g2 (by assumption) (by assumption)
      refine ⟨j + 1, ⟨by omega, by rw [e]⟩, by omega, ?_⟩
      repeat' (first | apply And.intro | exact True.intro | exact Lf.mk (by with_reducible rfl) | apply Lf.mk)
      all_goals first | (rw [Int.natCast_add]; rfl) | exact fC (by assumption) | (rw [e]; done) | (rw [e]; rfl) | (rw [Int.natCast_add]; omega) | skip
noncomputable def s_impl_lies : Sig := ⟨74, [.val .iv, .val .iv], [.val .bool], fun ((i : Iv), (k : Iv), _) => ⟨[ivOk i = true, ivOk k = true], (liesR i k, ()), ()⟩⟩
noncomputable def s_spec_rnIn : Sig := ⟨75, [.val .iv, .val .iv], [.val .bool], fun ((i : Iv), (k : Iv), _) => ⟨[ivOk i = true, ivOk k = true], (liesR i k, ()), ()⟩⟩
theorem ok_impl_lies : GSpec Tryz.prog s_impl_lies := by
  refine fn_known tab_ok fol (Known.nil.cons ok_impl_less (by kernel_rfl)) (by decide) Tryz.func74 ?_
  rintro ⟨⟨⟨(n : Int), (d : Int)⟩, ⟨(m : Int), (e : Int)⟩⟩, ⟨⟨(n' : Int), (d' : Int)⟩, ⟨(m' : Int), (e' : Int)⟩⟩, ⟨⟩⟩ - ⟨h1, h2, _⟩
  obtain ⟨u1, u2, u3⟩ := ivOk_iff.1 h1
  obtain ⟨v1, v2, v3⟩ := ivOk_iff.1 h2
  repeat' (first | with_reducible apply andAll_cons | with_reducible apply andAll_nil | (with_reducible apply Cf.mk; kernel_rfl) | apply And.intro | intro _ | exact True.intro | apply Lf.mk)
  all_goals (try simp only [Bool.not_eq_true', Bool.not_eq_false', Bool.not_not, decide_eq_true_eq, decide_eq_false_iff_not, beq_iff_eq, bne_iff_ne, beq_eq_false_iff_ne, bne_eq_false_iff_eq, ne_eq, Bool.and_eq_true, Bool.and_eq_false_iff, Bool.or_eq_true, Bool.or_eq_false_iff, Int.toNat_natCast, Nat.zero_add, Int.ofNat_lt, Int.ofNat_le, List.length_cons, List.length_nil, List.drop_zero, List.take_length] at *)
  all_goals first | assumption | exact unit_good (by assumption) | (simp_all [liesR, cmp_lt_less, cmp_le_less, cmp_le_iff, cmp_lt_iff]; done) | skip
theorem ok_spec_rnIn : GSpec Tryz.prog s_spec_rnIn := by
  refine fn_known tab_ok fol (Known.nil.cons ok_spec_raCmp (by kernel_rfl)) (by decide) Tryz.func75 ?_
  rintro ⟨⟨⟨(n : Int), (d : Int)⟩, ⟨(m : Int), (e : Int)⟩⟩, ⟨⟨(n' : Int), (d' : Int)⟩, ⟨(m' : Int), (e' : Int)⟩⟩, ⟨⟩⟩ - ⟨h1, h2, _⟩
  obtain ⟨u1, u2, u3⟩ := ivOk_iff.1 h1
  obtain ⟨v1, v2, v3⟩ := ivOk_iff.1 h2
  repeat' (first | with_reducible apply andAll_cons | with_reducible apply andAll_nil | (with_reducible apply Cf.mk; kernel_rfl) | apply And.intro | intro _ | exact True.intro | apply Lf.mk)
  all_goals (try simp only [Bool.not_eq_true', Bool.not_eq_false', Bool.not_not, decide_eq_true_eq, decide_eq_false_iff_not, beq_iff_eq, bne_iff_ne, beq_eq_false_iff_ne, bne_eq_false_iff_eq, ne_eq, Bool.and_eq_true, Bool.and_eq_false_iff, Bool.or_eq_true, Bool.or_eq_false_iff, Int.toNat_natCast, Nat.zero_add, Int.ofNat_lt, Int.ofNat_le, List.length_cons, List.length_nil, List.drop_zero, List.take_length] at *)
  all_goals first | assumption | exact unit_good (by assumption) | (simp_all [liesR, cmp_lt_less, cmp_le_less, cmp_le_iff, cmp_lt_iff]; done) | skip
noncomputable def cutR (i k : Iv) : Iv := match meetR i k with | true => ⟨grR i.a k.a, lsR i.b k.b⟩ | false => ⟨⟨0, 0⟩, ⟨0, 0⟩⟩
noncomputable def s_impl_common : Sig := ⟨125, [.val .iv, .val .iv], [.val .iv, .val .bool], fun ((i : Iv), (k : Iv), _) => ⟨[ivOk i = true, ivOk k = true], (cutR i k, meetR i k, ()), ()⟩⟩
noncomputable def s_spec_ivSeparate : Sig := ⟨126, [.val .iv, .val .iv], [.val .bool], fun ((i : Iv), (k : Iv), _) => ⟨[ivOk i = true, ivOk k = true], (sepR i k, ()), ()⟩⟩
theorem ok_impl_common : GSpec Tryz.prog s_impl_common := by
  refine fn_known tab_ok fol (((Known.nil.cons ok_impl_less (by kernel_rfl)).cons ok_impl_lesser (by kernel_rfl)).cons ok_impl_greater (by kernel_rfl)) (by decide) Tryz.func125 ?_
  rintro ⟨⟨⟨(n : Int), (d : Int)⟩, ⟨(m : Int), (e : Int)⟩⟩, ⟨⟨(n' : Int), (d' : Int)⟩, ⟨(m' : Int), (e' : Int)⟩⟩, ⟨⟩⟩ - ⟨h1, h2, _⟩
  obtain ⟨u1, u2, u3⟩ := ivOk_iff.1 h1
  obtain ⟨v1, v2, v3⟩ := ivOk_iff.1 h2
  have w1 := unit_good (grR_unit u1 v1)
  have w2 := unit_good (lsR_unit u2 v2)
  repeat' (first | with_reducible apply andAll_cons | with_reducible apply andAll_nil | (with_reducible apply Cf.mk; kernel_rfl) | apply And.intro | intro _ | exact True.intro | apply Lf.mk)
  all_goals (try simp only [Bool.not_eq_true', Bool.not_eq_false', Bool.not_not, decide_eq_true_eq, decide_eq_false_iff_not, beq_iff_eq, bne_iff_ne, beq_eq_false_iff_ne, bne_eq_false_iff_eq, ne_eq, Bool.and_eq_true, Bool.and_eq_false_iff, Bool.or_eq_true, Bool.or_eq_false_iff, Int.toNat_natCast, Nat.zero_add, Int.ofNat_lt, Int.ofNat_le, List.length_cons, List.length_nil, List.drop_zero, List.take_length] at *)
  all_goals first | assumption | exact unit_good (by assumption) | (simp_all [cutR, meetR]; done) | skip
theorem ok_spec_ivSeparate : GSpec Tryz.prog s_spec_ivSeparate := by
  refine fn_known tab_ok fol (Known.nil.cons ok_spec_raCmp (by kernel_rfl)) (by decide) Tryz.func126 ?_
  rintro ⟨⟨⟨(n : Int), (d : Int)⟩, ⟨(m : Int), (e : Int)⟩⟩, ⟨⟨(n' : Int), (d' : Int)⟩, ⟨(m' : Int), (e' : Int)⟩⟩, ⟨⟩⟩ - ⟨h1, h2, _⟩
  obtain ⟨u1, u2, u3⟩ := ivOk_iff.1 h1
  obtain ⟨v1, v2, v3⟩ := ivOk_iff.1 h2
  repeat' (first | with_reducible apply andAll_cons | with_reducible apply andAll_nil | (with_reducible apply Cf.mk; kernel_rfl) | apply And.intro | intro _ | exact True.intro | apply Lf.mk)
  all_goals (try simp only [Bool.not_eq_true', Bool.not_eq_false', Bool.not_not, decide_eq_true_eq, decide_eq_false_iff_not, beq_iff_eq, bne_iff_ne, beq_eq_false_iff_ne, bne_eq_false_iff_eq, ne_eq, Bool.and_eq_true, Bool.and_eq_false_iff, Bool.or_eq_true, Bool.or_eq_false_iff, Int.toNat_natCast, Nat.zero_add, Int.ofNat_lt, Int.ofNat_le, List.length_cons, List.length_nil, List.drop_zero, List.take_length] at *)
  all_goals first | assumption | exact unit_good (by assumption) | (simp_all [sepR, cmp_lt_less, cmp_le_less, cmp_le_iff, cmp_lt_iff]; done) | skip
end Go.Vx
namespace Go.Vx
open Go Go.Proofs
set_option maxRecDepth 100000
set_option linter.unusedSimpArgs false
set_option linter.unusedVariables false

noncomputable def retOk (f : List Pt) (i : Iv) (n : Int) : Bool := mapOk f && (ivOk i && inB n 1 12)
theorem retOk_iff {f : List Pt} {i : Iv} {n : Int} : retOk f i n = true ↔ (mapOk f = true ∧ ivOk i = true ∧ 1 ≤ n ∧ n ≤ 12) := by
  unfold retOk inB; simp
noncomputable def s_impl_isReturn : Sig := ⟨71, [.list .pt, .val .iv, .val NI], [.val .bool], fun ((f : List Pt), (i : Iv), (n : Int), _) => ⟨[], (retOk f i n, ()), ()⟩⟩
noncomputable def s_spec_rnSteps : Sig := ⟨90, [.val NI], [.val .bool], fun ((n : Int), _) => ⟨[], (inB n 1 12, ()), ()⟩⟩
noncomputable def s_spec_rnAsked : Sig := ⟨69, [.list .pt, .val .iv, .val NI], [.val .bool], fun ((f : List Pt), (i : Iv), (n : Int), _) => ⟨[], (retOk f i n, ()), ()⟩⟩
theorem ok_impl_isReturn : GSpec Tryz.prog s_impl_isReturn := by
  refine fn_known tab_ok fol (((Known.nil.cons ok_impl_isMap (by kernel_rfl)).cons ok_impl_isInterval (by kernel_rfl)).cons ok_impl_within (by kernel_rfl)) (by decide) Tryz.func71 ?_
  rintro ⟨(f : List Pt), ⟨⟨(n : Int), (d : Int)⟩, ⟨(m : Int), (e : Int)⟩⟩, (k : Int), ⟨⟩⟩ - -
  repeat' (first | with_reducible apply andAll_cons | with_reducible apply andAll_nil | (with_reducible apply Cf.mk; kernel_rfl) | apply And.intro | intro _ | exact True.intro | apply Lf.mk)
  all_goals (try simp only [Bool.not_eq_true', Bool.not_eq_false', Bool.not_not, decide_eq_true_eq, decide_eq_false_iff_not, beq_iff_eq, bne_iff_ne, beq_eq_false_iff_ne, bne_eq_false_iff_eq, ne_eq, Bool.and_eq_true, Bool.and_eq_false_iff, Bool.or_eq_true, Bool.or_eq_false_iff, Int.toNat_natCast, Nat.zero_add, Int.ofNat_lt, Int.ofNat_le, List.length_cons, List.length_nil, List.drop_zero, List.take_length] at *)
  all_goals first | (simp_all [retOk]; done) | skip
theorem ok_spec_rnSteps : GSpec Tryz.prog s_spec_rnSteps := by
  refine fn_known tab_ok fol (Known.nil.cons ok_spec_l1In (by kernel_rfl)) (by decide) Tryz.func90 ?_
  rintro ⟨(k : Int), ⟨⟩⟩ - -
  repeat' (first | with_reducible apply andAll_cons | with_reducible apply andAll_nil | (with_reducible apply Cf.mk; kernel_rfl) | apply And.intro | intro _ | exact True.intro | apply Lf.mk)
  all_goals rfl
theorem ok_spec_rnAsked : GSpec Tryz.prog s_spec_rnAsked := by
  refine fn_known tab_ok fol (((Known.nil.cons ok_spec_imGood (by kernel_rfl)).cons ok_spec_ivGood (by kernel_rfl)).cons ok_spec_rnSteps (by kernel_rfl)) (by decide) Tryz.func69 ?_
  rintro ⟨(f : List Pt), ⟨⟨(n : Int), (d : Int)⟩, ⟨(m : Int), (e : Int)⟩⟩, (k : Int), ⟨⟩⟩ - -
  repeat' (first | with_reducible apply andAll_cons | with_reducible apply andAll_nil | (with_reducible apply Cf.mk; kernel_rfl) | apply And.intro | intro _ | exact True.intro | apply Lf.mk)
  all_goals (try simp only [Bool.not_eq_true', Bool.not_eq_false', Bool.not_not, decide_eq_true_eq, decide_eq_false_iff_not, beq_iff_eq, bne_iff_ne, beq_eq_false_iff_ne, bne_eq_false_iff_eq, ne_eq, Bool.and_eq_true, Bool.and_eq_false_iff, Bool.or_eq_true, Bool.or_eq_false_iff, Int.toNat_natCast, Nat.zero_add, Int.ofNat_lt, Int.ofNat_le, List.length_cons, List.length_nil, List.drop_zero, List.take_length] at *)
  all_goals first | (simp_all [retOk]; done) | skip
noncomputable def imsRes (f : List Pt) (i : Iv) (n : Int) : List Iv × Bool := match retOk f i n with
  | true => ((imgs f i n.toNat).1, decide ((imgs f i n.toNat).2.2 = 0))
  | false => ([], false)
theorem ims_t {f : List Pt} {i : Iv} {n : Int} (h : retOk f i n = true) : imsRes f i n = ((imgs f i n.toNat).1, decide ((imgs f i n.toNat).2.2 = 0)) := by unfold imsRes; rw [h]
theorem ims_f {f : List Pt} {i : Iv} {n : Int} (h : retOk f i n = false) : imsRes f i n = ([], false) := by unfold imsRes; rw [h]
theorem imgs_bad {f : List Pt} {i : Iv} {k : Nat} (h : mapOk f = true) (hi : ivOk i = true) (hc : (imgs f i k).2.2 ≠ 0) : (imgs f i k).1 = [] := (imgs_inv h hi k).2 hc
theorem imgs_code (f : List Pt) (i : Iv) : ∀ (k : Nat), (imgs f i k).2.2 = 0 ∨ (imgs f i k).2.2 = 1 ∨ (imgs f i k).2.2 = 2
  | 0 => .inl rfl
  | k + 1 => by
    by_cases c0 : (imgs f i k).2.2 = 0
    · cases c1 : imB f (imgs f i k).2.1.a (imgs f i k).2.1.b with
      | false => rw [imgs_1 c0 c1]; exact .inr (.inl rfl)
      | true =>
        by_cases c2 : (imO f (imgs f i k).2.1.a (imgs f i k).2.1.b).1 = (imO f (imgs f i k).2.1.a (imgs f i k).2.1.b).2
        · rw [imgs_2 c0 c1 c2]; exact .inr (.inr rfl)
        · rw [imgs_0 c0 c1 c2]; exact .inl rfl
    · rw [imgs_stay c0 (Nat.le_succ k)]; exact imgs_code f i k
theorem ims_c {f : List Pt} {i : Iv} {n : Int} (h : retOk f i n = true) (c : ¬ (imgs f i n.toNat).2.2 = 0) : imsRes f i n = ([], false) := by
  obtain ⟨h1, h2, h3, h4⟩ := retOk_iff.1 h
  rw [ims_t h, imgs_bad h1 h2 c, decide_eq_false c]
theorem ims_c1 {f : List Pt} {i : Iv} {n : Int} (h : retOk f i n = true) (c : (imgs f i n.toNat).2.2 = 1) : imsRes f i n = ([], false) := ims_c h (by omega)
theorem ims_c2 {f : List Pt} {i : Iv} {n : Int} (h : retOk f i n = true) (c : (imgs f i n.toNat).2.2 = 2) : imsRes f i n = ([], false) := ims_c h (by omega)
theorem ims_c0 {f : List Pt} {i : Iv} {n : Int} (h : retOk f i n = true) (c : ¬ (imgs f i n.toNat).2.2 = 1) (c' : ¬ (imgs f i n.toNat).2.2 = 2) : imsRes f i n = ((imgs f i n.toNat).1, true) := by
  rw [ims_t h, decide_eq_true (by have := imgs_code f i n.toNat; omega)]
theorem ims_0 {f : List Pt} {i : Iv} {n : Int} (h : retOk f i n = true) (c : (imgs f i n.toNat).2.2 = 0) : imsRes f i n = ((imgs f i n.toNat).1, true) := by
  rw [ims_t h, decide_eq_true c]
theorem ims_00 {f : List Pt} {i : Iv} {n : Int} (h : retOk f i n = true) (c : (imgs f i n.toNat).2.2 = 0) : (imsRes f i n).2 = true := by rw [ims_0 h c]
theorem ims_ff {f : List Pt} {i : Iv} {n : Int} (h : retOk f i n = false) : (imsRes f i n).2 = false := by rw [ims_f h]
theorem ims_fc {f : List Pt} {i : Iv} {n : Int} (h : retOk f i n = true) (c : ¬ (imgs f i n.toNat).2.2 = 0) : (imsRes f i n).2 = false := by rw [ims_c h c]
theorem im_facts {f : List Pt} {i : Iv} {n : Int} (h : retOk f i n = true) (c : (imgs f i n.toNat).2.2 = 0) : 1 ≤ n ∧ n ≤ 12 ∧ (imgs f i n.toNat).1.length = n.toNat + 1 ∧ (∀ j ∈ (imgs f i n.toNat).1, ivOk j = true) ∧ ivOk i = true ∧ getA (VK.dflt .iv) (imgs f i n.toNat).1 0 = i := by
  obtain ⟨h1, h2, h3, h4⟩ := retOk_iff.1 h
  obtain ⟨j1, j2, j3, j4⟩ := (imgs_inv h1 h2 n.toNat).1 c
  exact ⟨h3, h4, j1, j3, h2, j4⟩
theorem ims_len (f : List Pt) (i : Iv) (n : Int) : (imsRes f i n).1.length ≤ 13 := by
  cases h : retOk f i n with
  | false => rw [ims_f h]; exact Nat.zero_le _
  | true =>
    rw [ims_t h]
    obtain ⟨h1, h2, h3, h4⟩ := retOk_iff.1 h
    by_cases c : (imgs f i n.toNat).2.2 = 0
    · have := ((imgs_inv h1 h2 n.toNat).1 c).1; dsimp only; omega
    · rw [imgs_bad h1 h2 c]; exact Nat.zero_le _
theorem ims_ok {f : List Pt} {i : Iv} {n : Int} (h : (imsRes f i n).2 = true) : mapOk f = true ∧ ivOk i = true ∧ 1 ≤ n ∧ n ≤ 12 ∧ (imgs f i n.toNat).2.2 = 0 ∧ imsRes f i n = ((imgs f i n.toNat).1, true) ∧ (imsRes f i n).1.length = n.toNat + 1 ∧ (∀ j ∈ (imsRes f i n).1, ivOk j = true) ∧ getA (VK.dflt .iv) (imsRes f i n).1 0 = i := by
  cases hr : retOk f i n with
  | false => rw [ims_f hr] at h; cases h
  | true =>
    obtain ⟨h1, h2, h3, h4⟩ := retOk_iff.1 hr
    rw [ims_t hr] at h ⊢
    have hc := of_decide_eq_true h
    obtain ⟨j1, j2, j3, j4⟩ := (imgs_inv h1 h2 n.toNat).1 hc
    exact ⟨h1, h2, h3, h4, hc, by rw [hc]; rfl, j1, j3, j4⟩
noncomputable def s_impl_ImagesOf : Sig := ⟨11, [.list .pt, .val .iv, .val NI], [.list iT .iv, .val .bool], fun ((f : List Pt), (i : Iv), (n : Int), _) => ⟨[], ((imsRes f i n).1, (imsRes f i n).2, ()), ()⟩⟩
noncomputable def s_spec_ImagesOf : Sig := ⟨12, [.list .pt, .val .iv, .val NI], [.list iT .iv, .val .bool], fun ((f : List Pt), (i : Iv), (n : Int), _) => ⟨[], ((imsRes f i n).1, (imsRes f i n).2, ()), ()⟩⟩
theorem ok_impl_ImagesOf : GSpec Tryz.prog s_impl_ImagesOf := by
  refine fn_known tab_ok fol ((Known.nil.cons ok_impl_isReturn (by kernel_rfl)).cons ok_calc_images (by kernel_rfl)) (by decide) Tryz.func11 ?_
  rintro ⟨(f : List Pt), ⟨⟨(n : Int), (d : Int)⟩, ⟨(m : Int), (e : Int)⟩⟩, (k : Int), ⟨⟩⟩ - -
  repeat' (first | with_reducible apply andAll_cons | with_reducible apply andAll_nil | (with_reducible apply Cf.mk; kernel_rfl) | apply And.intro | intro _ | exact True.intro | apply Lf.mk)
  all_goals (try simp only [Bool.not_eq_true', Bool.not_eq_false', Bool.not_not, decide_eq_true_eq, decide_eq_false_iff_not, beq_iff_eq, bne_iff_ne, beq_eq_false_iff_ne, bne_eq_false_iff_eq, ne_eq, Bool.and_eq_true, Bool.and_eq_false_iff, Bool.or_eq_true, Bool.or_eq_false_iff, Int.toNat_natCast, Nat.zero_add, Int.ofNat_lt, Int.ofNat_le, List.length_cons, List.length_nil, List.drop_zero, List.take_length] at *)
  all_goals first
    | exact (retOk_iff.1 (by assumption)).1
    | exact (retOk_iff.1 (by assumption)).2.1
    | (have := retOk_iff.1 (by assumption : retOk _ _ _ = true); omega)
    | (rw [ims_f (by assumption)]; done)
    | (rw [ims_c1 (by assumption) (by assumption)]; done)
    | (rw [ims_c2 (by assumption) (by assumption)]; done)
    | (rw [ims_c0 (by assumption) (by assumption) (by assumption)]; done)
    | (rw [ims_t (by assumption)]; done)
    | skip
theorem ok_spec_ImagesOf : GSpec Tryz.prog s_spec_ImagesOf := by
  refine fn_known tab_ok fol ((Known.nil.cons ok_spec_rnAsked (by kernel_rfl)).cons ok_spec_rnImages (by kernel_rfl)) (by decide) Tryz.func12 ?_
  rintro ⟨(f : List Pt), ⟨⟨(n : Int), (d : Int)⟩, ⟨(m : Int), (e : Int)⟩⟩, (k : Int), ⟨⟩⟩ - -
  repeat' (first | with_reducible apply andAll_cons | with_reducible apply andAll_nil | (with_reducible apply Cf.mk; kernel_rfl) | apply And.intro | intro _ | exact True.intro | apply Lf.mk)
  all_goals (try simp only [Bool.not_eq_true', Bool.not_eq_false', Bool.not_not, decide_eq_true_eq, decide_eq_false_iff_not, beq_iff_eq, bne_iff_ne, beq_eq_false_iff_ne, bne_eq_false_iff_eq, ne_eq, Bool.and_eq_true, Bool.and_eq_false_iff, Bool.or_eq_true, Bool.or_eq_false_iff, Int.toNat_natCast, Nat.zero_add, Int.ofNat_lt, Int.ofNat_le, List.length_cons, List.length_nil, List.drop_zero, List.take_length] at *)
  all_goals first
    | exact (retOk_iff.1 (by assumption)).1
    | exact (retOk_iff.1 (by assumption)).2.1
    | (have := retOk_iff.1 (by assumption : retOk _ _ _ = true); omega)
    | (rw [ims_f (by assumption)]; done)
    | (rw [ims_c1 (by assumption) (by assumption)]; done)
    | (rw [ims_c2 (by assumption) (by assumption)]; done)
    | (rw [ims_c0 (by assumption) (by assumption) (by assumption)]; done)
    | (rw [ims_t (by assumption)]; done)
    | skip

noncomputable def raRes (f : List Pt) (i : Iv) (n : Int) : Bool × Bool := match (imsRes f i n).2 with
  | true => (liesR (getA (VK.dflt .iv) (imsRes f i n).1 n.toNat) i, true)
  | false => (false, false)
theorem ra_t {f : List Pt} {i : Iv} {n : Int} (h : (imsRes f i n).2 = true) : raRes f i n = (liesR (getA (VK.dflt .iv) (imsRes f i n).1 n.toNat) i, true) := by unfold raRes; rw [h]
theorem ra_f {f : List Pt} {i : Iv} {n : Int} (h : (imsRes f i n).2 = false) : raRes f i n = (false, false) := by unfold raRes; rw [h]
noncomputable def s_impl_ReturnsAfter : Sig := ⟨13, [.list .pt, .val .iv, .val NI], [.val .bool, .val .bool], fun ((f : List Pt), (i : Iv), (n : Int), _) => ⟨[], ((raRes f i n).1, (raRes f i n).2, ()), ()⟩⟩
noncomputable def s_spec_ReturnsAfter : Sig := ⟨14, [.list .pt, .val .iv, .val NI], [.val .bool, .val .bool], fun ((f : List Pt), (i : Iv), (n : Int), _) => ⟨[], ((raRes f i n).1, (raRes f i n).2, ()), ()⟩⟩
theorem ok_impl_ReturnsAfter : GSpec Tryz.prog s_impl_ReturnsAfter := by
  refine fn_known tab_ok fol ((Known.nil.cons ok_impl_ImagesOf (by kernel_rfl)).cons ok_impl_lies (by kernel_rfl)) (by decide) Tryz.func13 ?_
  rintro ⟨(f : List Pt), ⟨⟨(n : Int), (d : Int)⟩, ⟨(m : Int), (e : Int)⟩⟩, (k : Int), ⟨⟩⟩ - -
  repeat' (first | with_reducible apply andAll_cons | with_reducible apply andAll_nil | (with_reducible apply Cf.mk; kernel_rfl) | apply And.intro | intro _ | exact True.intro | apply Lf.mk)
  all_goals (try simp only [Bool.not_eq_true', Bool.not_eq_false', Bool.not_not, decide_eq_true_eq, decide_eq_false_iff_not, beq_iff_eq, bne_iff_ne, beq_eq_false_iff_ne, bne_eq_false_iff_eq, ne_eq, Bool.and_eq_true, Bool.and_eq_false_iff, Bool.or_eq_true, Bool.or_eq_false_iff, Int.toNat_natCast, Nat.zero_add, Int.ofNat_lt, Int.ofNat_le, List.length_cons, List.length_nil, List.drop_zero, List.take_length] at *)
  all_goals first
    | (rw [ra_f (by assumption)]; done)
    | (rw [ra_t (by assumption)]; done)
    | (have h := ims_ok (by assumption : (imsRes _ _ _).2 = true); first | omega | exact h.2.2.2.2.2.2.2.1 _ (getA_mem _ (by omega)) | exact h.2.1)
    | skip
theorem ok_spec_ReturnsAfter : GSpec Tryz.prog s_spec_ReturnsAfter := by
  refine fn_known tab_ok fol (((Known.nil.cons ok_spec_rnAsked (by kernel_rfl)).cons ok_spec_rnImages (by kernel_rfl)).cons ok_spec_rnIn (by kernel_rfl)) (by decide) Tryz.func14 ?_
  rintro ⟨(f : List Pt), ⟨⟨(n : Int), (d : Int)⟩, ⟨(m : Int), (e : Int)⟩⟩, (k : Int), ⟨⟩⟩ - -
  repeat' (first | with_reducible apply andAll_cons | with_reducible apply andAll_nil | (with_reducible apply Cf.mk; kernel_rfl) | apply And.intro | intro _ | exact True.intro | apply Lf.mk)
  all_goals (try simp only [Bool.not_eq_true', Bool.not_eq_false', Bool.not_not, decide_eq_true_eq, decide_eq_false_iff_not, beq_iff_eq, bne_iff_ne, beq_eq_false_iff_ne, bne_eq_false_iff_eq, ne_eq, Bool.and_eq_true, Bool.and_eq_false_iff, Bool.or_eq_true, Bool.or_eq_false_iff, Int.toNat_natCast, Nat.zero_add, Int.ofNat_lt, Int.ofNat_le, List.length_cons, List.length_nil, List.drop_zero, List.take_length] at *)
  all_goals first
    | exact (retOk_iff.1 (by assumption)).1
    | exact (retOk_iff.1 (by assumption)).2.1
    | (rw [ra_f (ims_ff (by assumption))]; done)
    | (rw [ra_f (ims_fc (by assumption) (by assumption))]; done)
    | (rw [ra_t (ims_00 (by assumption) (by assumption)), ims_0 (by assumption) (by assumption)]; done)
    | (have h := retOk_iff.1 (by assumption : retOk _ _ _ = true); omega)
    | (have h := im_facts (by assumption : retOk _ _ _ = true) (by assumption); first | omega | exact h.2.2.2.1 _ (getA_mem _ (by omega)) | exact h.2.2.2.2.1)
    | skip

noncomputable def lrG (L : List Iv) (i : Iv) : Nat → Nat → Int × Bool
  | 0, _ => (0, false)
  | k + 1, n => match liesR (getA (VK.dflt .iv) L n) i with
    | true => ((n : Int), true)
    | false => lrG L i k (n + 1)
theorem lrG_hit {L : List Iv} {i : Iv} {M j : Nat} (hj : j < M) (h : liesR (getA (VK.dflt .iv) L (j + 1)) i = true) : lrG L i (M - j) (j + 1) = (((j + 1 : Nat) : Int), true) := by
  rw [show M - j = (M - (j + 1)) + 1 by omega, lrG, h]
theorem lrG_miss {L : List Iv} {i : Iv} {M j : Nat} (hj : j < M) (h : liesR (getA (VK.dflt .iv) L (j + 1)) i = false) : lrG L i (M - j) (j + 1) = lrG L i (M - (j + 1)) (j + 1 + 1) := by
  rw [show M - j = (M - (j + 1)) + 1 by omega, lrG, h]
theorem lrG_end {L : List Iv} {i : Iv} {M j : Nat} (hj : ¬ j < M) : lrG L i (M - j) (j + 1) = (0, false) := by
  rw [show M - j = 0 by omega]; rfl
noncomputable def lrRes (f : List Pt) (i : Iv) (n : Int) : Int × Bool := match (imsRes f i n).2 with
  | true => lrG (imsRes f i n).1 i n.toNat 1
  | false => (0, false)
theorem lr_t {f : List Pt} {i : Iv} {n : Int} (h : (imsRes f i n).2 = true) : lrRes f i n = lrG (imsRes f i n).1 i n.toNat 1 := by unfold lrRes; rw [h]
theorem lr_f {f : List Pt} {i : Iv} {n : Int} (h : (imsRes f i n).2 = false) : lrRes f i n = (0, false) := by unfold lrRes; rw [h]
noncomputable def s_impl_LeastReturn : Sig := ⟨18, [.list .pt, .val .iv, .val NI], [.val NI, .val .bool], fun ((f : List Pt), (i : Iv), (n : Int), _) => ⟨[], ((lrRes f i n).1, (lrRes f i n).2, ()), ()⟩⟩
noncomputable def s_spec_LeastReturn : Sig := ⟨19, [.list .pt, .val .iv, .val NI], [.val NI, .val .bool], fun ((f : List Pt), (i : Iv), (n : Int), _) => ⟨[], ((lrRes f i n).1, (lrRes f i n).2, ()), ()⟩⟩
theorem ok_impl_LeastReturn : GSpec Tryz.prog s_impl_LeastReturn := by
  refine fn_known tab_ok fol ((Known.nil.cons ok_impl_ImagesOf (by kernel_rfl)).cons ok_impl_lies (by kernel_rfl)) (by decide) Tryz.func18 ?_
  rintro ⟨(f : List Pt), ⟨⟨(n : Int), (d : Int)⟩, ⟨(m : Int), (e : Int)⟩⟩, (k : Int), ⟨⟩⟩ - -
  repeat' (first | with_reducible apply andAll_cons | with_reducible apply andAll_nil | (with_reducible apply Cf.mk; kernel_rfl) | apply And.intro | intro _ | exact True.intro | apply Lf.mk)
  all_goals (try simp only [Bool.not_eq_true', Bool.not_eq_false', Bool.not_not, decide_eq_true_eq, decide_eq_false_iff_not, beq_iff_eq, bne_iff_ne, beq_eq_false_iff_ne, bne_eq_false_iff_eq, ne_eq, Bool.and_eq_true, Bool.and_eq_false_iff, Bool.or_eq_true, Bool.or_eq_false_iff, Int.toNat_natCast, Nat.zero_add, Int.ofNat_lt, Int.ofNat_le, List.length_cons, List.length_nil, List.drop_zero, List.take_length] at *)
  all_goals first
    | (rw [lr_f (by assumption)]; done)
    | skip
  rename_i hr
  obtain ⟨-, w2, w3, w4, -, -, w7, w8, -⟩ := ims_ok hr
  refine ⟨Nat, fun j => ⟨[(10, .sc (.num .i64 ((j : Int) + 1)))], [4, 200150], []⟩, fun j => j ≤ k.toNat ∧ lrG (imsRes f ⟨⟨n, d⟩, ⟨m, e⟩⟩ k).1 ⟨⟨n, d⟩, ⟨m, e⟩⟩ (k.toNat - j) (j + 1) = lrRes f ⟨⟨n, d⟩, ⟨m, e⟩⟩ k, fun j => k.toNat - j, ⟨0, ⟨Nat.zero_le _, (lr_t hr).symm⟩, ?_⟩, ?_⟩
  · repeat' (first | apply And.intro | exact True.intro | exact Lf.mk (by with_reducible rfl) | apply Lf.mk)
    all_goals rfl
  · rintro j ⟨g1, g2⟩
    repeat' (first | with_reducible apply andAll_cons | with_reducible apply andAll_nil | (with_reducible apply Cf.mk; kernel_rfl) | apply And.intro | intro _ | exact True.intro | apply Lf.mk)
    all_goals (try simp only [Bool.not_eq_true', Bool.not_eq_false', Bool.not_not, decide_eq_true_eq, decide_eq_false_iff_not, beq_iff_eq, bne_iff_ne, beq_eq_false_iff_ne, bne_eq_false_iff_eq, ne_eq, Bool.and_eq_true, Bool.and_eq_false_iff, Bool.or_eq_true, Bool.or_eq_false_iff, Int.toNat_natCast, Nat.zero_add, Int.ofNat_lt, Int.ofNat_le, List.length_cons, List.length_nil, List.drop_zero, List.take_length] at *)
    all_goals first | omega | exact w2 | exact w8 _ (getA_mem _ (by omega)) | (rw [← g2, lrG_end (by omega)]; done) | skip
    all_goals simp only [succ_nat] at *
    · rw [← g2, lrG_hit (by omega) (by assumption), Int.natCast_add]; rfl
    · rw [← g2, lrG_hit (by omega) (by assumption)]
    · refine ⟨j + 1, ⟨by omega, (lrG_miss (by omega) (by assumption)).symm.trans g2⟩, by omega, ?_⟩
      repeat' (first | apply And.intro | exact True.intro | exact Lf.mk (by with_reducible rfl) | apply Lf.mk)
      all_goals first | rfl | (rw [Int.natCast_add]; rfl) | omega
theorem ok_spec_LeastReturn : GSpec Tryz.prog s_spec_LeastReturn := by
  refine fn_known tab_ok fol (((Known.nil.cons ok_spec_rnAsked (by kernel_rfl)).cons ok_spec_rnImages (by kernel_rfl)).cons ok_spec_rnIn (by kernel_rfl)) (by decide) Tryz.func19 ?_
  rintro ⟨(f : List Pt), ⟨⟨(n : Int), (d : Int)⟩, ⟨(m : Int), (e : Int)⟩⟩, (k : Int), ⟨⟩⟩ - -
  repeat' (first | with_reducible apply andAll_cons | with_reducible apply andAll_nil | (with_reducible apply Cf.mk; kernel_rfl) | apply And.intro | intro _ | exact True.intro | apply Lf.mk)
  all_goals (try simp only [Bool.not_eq_true', Bool.not_eq_false', Bool.not_not, decide_eq_true_eq, decide_eq_false_iff_not, beq_iff_eq, bne_iff_ne, beq_eq_false_iff_ne, bne_eq_false_iff_eq, ne_eq, Bool.and_eq_true, Bool.and_eq_false_iff, Bool.or_eq_true, Bool.or_eq_false_iff, Int.toNat_natCast, Nat.zero_add, Int.ofNat_lt, Int.ofNat_le, List.length_cons, List.length_nil, List.drop_zero, List.take_length] at *)
  all_goals first
    | exact (retOk_iff.1 (by assumption)).1
    | exact (retOk_iff.1 (by assumption)).2.1
    | (rw [lr_f (ims_ff (by assumption))]; done)
    | (rw [lr_f (ims_fc (by assumption) (by assumption))]; done)
    | (rw [lr_t (ims_00 (by assumption) (by assumption)), ims_0 (by assumption) (by assumption)]; done)
    | (have h := retOk_iff.1 (by assumption : retOk _ _ _ = true); omega)
    | (have h := im_facts (by assumption : retOk _ _ _ = true) (by assumption); first | omega | exact h.2.2.2.1 _ (getA_mem _ (by omega)) | exact h.2.2.2.2.1)
    | skip
  rename_i hr hc
  have hr2 := ims_00 hr hc
  have hr3 := ims_0 hr hc
  obtain ⟨w3, w4, w7, w8, w2, -⟩ := im_facts hr hc
  refine ⟨Nat, fun j => ⟨[(10, .sc (.num .i64 ((j : Int) + 1)))], [4, 200200], []⟩, fun j => j ≤ k.toNat ∧ lrG (imgs f ⟨⟨n, d⟩, ⟨m, e⟩⟩ k.toNat).1 ⟨⟨n, d⟩, ⟨m, e⟩⟩ (k.toNat - j) (j + 1) = lrRes f ⟨⟨n, d⟩, ⟨m, e⟩⟩ k, fun j => k.toNat - j, ⟨0, ⟨Nat.zero_le _, by rw [lr_t hr2, hr3]; rfl⟩, ?_⟩, ?_⟩
  · repeat' (first | apply And.intro | exact True.intro | exact Lf.mk (by with_reducible rfl) | apply Lf.mk)
    all_goals rfl
  · rintro j ⟨g1, g2⟩
    repeat' (first | with_reducible apply andAll_cons | with_reducible apply andAll_nil | (with_reducible apply Cf.mk; kernel_rfl) | apply And.intro | intro _ | exact True.intro | apply Lf.mk)
    all_goals (try simp only [Bool.not_eq_true', Bool.not_eq_false', Bool.not_not, decide_eq_true_eq, decide_eq_false_iff_not, beq_iff_eq, bne_iff_ne, beq_eq_false_iff_ne, bne_eq_false_iff_eq, ne_eq, Bool.and_eq_true, Bool.and_eq_false_iff, Bool.or_eq_true, Bool.or_eq_false_iff, Int.toNat_natCast, Nat.zero_add, Int.ofNat_lt, Int.ofNat_le, List.length_cons, List.length_nil, List.drop_zero, List.take_length] at *)
    all_goals first | omega | exact w2 | exact w8 _ (getA_mem _ (by omega)) | (rw [← g2, lrG_end (by omega)]; done) | skip
    all_goals simp only [succ_nat] at *
    · rw [← g2, lrG_hit (by omega) (by assumption), Int.natCast_add]; rfl
    · rw [← g2, lrG_hit (by omega) (by assumption)]
    · refine ⟨j + 1, ⟨by omega, (lrG_miss (by omega) (by assumption)).symm.trans g2⟩, by omega, ?_⟩
      repeat' (first | apply And.intro | exact True.intro | exact Lf.mk (by with_reducible rfl) | apply Lf.mk)
      all_goals first | rfl | (rw [Int.natCast_add]; rfl) | omega
end Go.Vx
