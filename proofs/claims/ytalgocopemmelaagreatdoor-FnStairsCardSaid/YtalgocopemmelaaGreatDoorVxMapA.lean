/- Maps: the program's functions and the reference's, up to the values of a map. -/
import Derived.Test.YtalgocopemmelaaGreatDoorVpMap
import Derived.Test.YtalgocopemmelaaGreatDoorVxK
namespace Go.Vx
open Go Go.Proofs
set_option maxRecDepth 100000
set_option linter.unusedSimpArgs false
set_option linter.unusedVariables false

noncomputable def s_impl_isCoord : Sig := ⟨86, [.val .rat], [.val .bool], fun ((r : Rt), _) => ⟨[], (coordRt r, ()), ()⟩⟩
noncomputable def s_spec_imCoord : Sig := ⟨68, [.val .rat], [.val .bool], fun ((r : Rt), _) => ⟨[], (coordRt r, ()), ()⟩⟩
theorem ok_impl_isCoord : GSpec Tryz.prog s_impl_isCoord := by
  refine fn_known tab_ok fol (Known.nil.cons ok_impl_isUnit (by kernel_rfl)) (by decide) Tryz.func86 ?_
  rintro ⟨⟨(n : Int), (d : Int)⟩, ⟨⟩⟩ hl _
  repeat' (first | with_reducible apply andAll_cons | with_reducible apply andAll_nil | (with_reducible apply Cf.mk; kernel_rfl) | apply And.intro | intro _ | exact True.intro | apply Lf.mk)
  all_goals (try simp only [Bool.not_eq_true', Bool.not_eq_false', Bool.not_not, decide_eq_true_eq, decide_eq_false_iff_not, beq_iff_eq, bne_iff_ne, beq_eq_false_iff_ne, bne_eq_false_iff_eq, ne_eq, Bool.and_eq_true, Bool.and_eq_false_iff, Bool.or_eq_true, Bool.or_eq_false_iff, Int.toNat_natCast, Nat.zero_add, Int.ofNat_lt, Int.ofNat_le, List.length_cons, List.length_nil, List.drop_zero, List.take_length] at *)
  all_goals (try change @Eq Bool _ _)
  all_goals (first | (simp_all [coordRt]; done) | (simp_all [coordRt]; omega))
theorem ok_spec_imCoord : GSpec Tryz.prog s_spec_imCoord := by
  refine fn_known tab_ok fol (Known.nil.cons ok_spec_raUnit (by kernel_rfl)) (by decide) Tryz.func68 ?_
  rintro ⟨⟨(n : Int), (d : Int)⟩, ⟨⟩⟩ hl _
  repeat' (first | with_reducible apply andAll_cons | with_reducible apply andAll_nil | (with_reducible apply Cf.mk; kernel_rfl) | apply And.intro | intro _ | exact True.intro | apply Lf.mk)
  all_goals (try simp only [Bool.not_eq_true', Bool.not_eq_false', Bool.not_not, decide_eq_true_eq, decide_eq_false_iff_not, beq_iff_eq, bne_iff_ne, beq_eq_false_iff_ne, bne_eq_false_iff_eq, ne_eq, Bool.and_eq_true, Bool.and_eq_false_iff, Bool.or_eq_true, Bool.or_eq_false_iff, Int.toNat_natCast, Nat.zero_add, Int.ofNat_lt, Int.ofNat_le, List.length_cons, List.length_nil, List.drop_zero, List.take_length] at *)
  all_goals (try change @Eq Bool _ _)
  all_goals (first | (simp_all [coordRt]; done) | (simp_all [coordRt]; omega))
theorem map_take_succ {α β : Type} (g : α → β) (d : α) (l : List α) (i : Nat) (h : i < l.length) : (l.take i).map g ++ [g (getA d l i)] = (l.take (i + 1)).map g := by
  rw [List.take_add_one, List.map_append, List.getElem?_eq_getElem h, getA_lt _ _ _ h]; rfl
theorem risR_no {l : List Rt} {i : Nat} (h : i + 1 < l.length) (h2 : lessRt (getA zR l i) (getA zR l (i + 1)) = false) : risR l = false := by
  rw [Bool.eq_false_iff, ne_eq, risR_iff]
  intro h3
  have := h3 i h
  unfold lessRt at h2
  exact of_decide_eq_false h2 this
theorem mapOk_no1 {f : List Pt} (h : inB f.length 2 12 = false) : mapOk f = false := by unfold mapOk; rw [h]; rfl
theorem eqRt_dec (a b : Rt) : eqRt a b = decide (a = b) := by
  rw [Bool.eq_iff_iff, decide_eq_true_eq]
  unfold eqRt
  cases a; cases b; simp
theorem mapOk_eq {f : List Pt} (h : inB f.length 2 12 = true) : mapOk f = ((!(f.any fun x => !ptOk x)) && (eqRt ⟨(getA VK.pt.dflt f (Int.toNat 0)).1.num, (getA VK.pt.dflt f (Int.toNat 0)).1.den⟩ ⟨0, 1⟩ && (eqRt ⟨(getA VK.pt.dflt f ((f.length : Int) - 1).toNat).1.num, (getA VK.pt.dflt f ((f.length : Int) - 1).toNat).1.den⟩ ⟨1, 1⟩ && risR (f.map Pt.x)))) := by
  have hb := of_decide_eq_true h
  unfold mapOk
  rw [h, any_not, eqRt_dec, eqRt_dec, show ((f.length : Int) - 1).toNat = f.length - 1 by omega]
  rfl
theorem any_pt {f : List Pt} (h : (f.any fun x => !ptOk x) = false) {r : Rt} (hr : r ∈ f.map Pt.x) : goodRt r = true := by
  have h2 : f.all ptOk = true := by rw [← any_not, h]; rfl
  obtain ⟨p, hp, rfl⟩ := List.mem_map.1 hr
  exact coord_good (ptOk_iff.1 (List.all_eq_true.1 h2 p hp)).1
theorem bA {C D : Bool} (h : (bif !C then true else !D) = false) : C = true ∧ D = true := by revert h; cases C <;> cases D <;> decide
theorem bB {C D : Bool} (h : (bif !C then true else !D) = true) (h2 : C = true) : D = false := by revert h h2; cases C <;> cases D <;> decide
theorem bC {X P Q : Bool} (h : (bif X then true else bif P then Q else false) = true) (h2 : X = false) : Q = true := by revert h h2; cases X <;> cases P <;> cases Q <;> decide
theorem bD {X P Q : Bool} (h : (bif X then true else bif P then Q else false) = false) (h2 : P = true) : Q = false := by revert h h2; cases X <;> cases P <;> cases Q <;> decide
theorem mapOk_pt1 {f : List Pt} {i : Nat} (h : i < f.length) (h2 : coordRt (getA zP f i).x = false) : false = mapOk f := by
  symm; rw [Bool.eq_false_iff]; intro h3; have := (ptOk_iff.1 (map_pt h3 h)).1; rw [h2] at this; cases this
theorem mapOk_pt2 {f : List Pt} {i : Nat} (h : i < f.length) (h2 : coordRt (getA zP f i).y = false) : false = mapOk f := by
  symm; rw [Bool.eq_false_iff]; intro h3; have := (ptOk_iff.1 (map_pt h3 h)).2; rw [h2] at this; cases this
theorem cmp_ge {a b : Rt} (h : decide (0 ≤ cmpRt a b) = true) : ¬ ltR a b := by
  have := of_decide_eq_true h
  intro h2; have := cmpRt_neg.2 h2; omega
theorem cmp_lt {a b : Rt} (h : decide (0 ≤ cmpRt a b) = false) : ltR a b := by
  have := of_decide_eq_false h
  exact cmpRt_neg.1 (by omega)
theorem pred_nat {i : Nat} (h : (0 : Int) < i) : ((i : Int) - 1).toNat = i - 1 := by omega
theorem mapOk_lt {f : List Pt} {i : Nat} (h : i < f.length) (h0 : (0 : Int) < i) (h2 : ¬ ltR (getA zP f ((i : Int) - 1).toNat).x (getA zP f i).x) : false = mapOk f := by
  symm; rw [Bool.eq_false_iff]; intro h3
  have := (mapOk_iff.1 h3).2.2.2.2 (i - 1) (by omega)
  rw [pred_nat h0] at h2
  rw [show i - 1 + 1 = i by omega] at this
  exact h2 this
theorem cmp_zero {a b : Rt} (ha : goodRt a = true) (hb : goodRt b = true) : (cmpRt a b == 0) = decide (a = b) := by
  rw [Bool.eq_iff_iff, beq_iff_eq, decide_eq_true_eq]
  constructor
  · intro h
    apply good_eq ha hb
    unfold cmpRt sgn at h
    split at h
    · omega
    · split at h <;> omega
  · intro h; subst h; unfold cmpRt sgn; rw [if_neg (by omega), if_neg (by omega)]
theorem mapOk_end {f : List Pt} {a b : Rt} (hb : 2 ≤ f.length ∧ f.length ≤ 12) (g2 : ∀ j, j < f.length → ptOk (getA zP f j) = true) (g3 : ∀ j, j + 1 < f.length → ltR (getA zP f j).x (getA zP f (j + 1)).x)
    (e1 : a = (getA zP f 0).x) (e2 : b = (getA zP f (f.length - 1)).x) : (decide (a = ⟨0, 1⟩) && decide (b = ⟨1, 1⟩)) = mapOk f := by
  subst e1; subst e2
  rw [Bool.eq_iff_iff, mapOk_iff, Bool.and_eq_true, decide_eq_true_eq, decide_eq_true_eq]
  constructor
  · intro ⟨h1, h2⟩
    refine ⟨hb, fun p hp => ?_, h1, h2, g3⟩
    obtain ⟨j, hj, rfl⟩ := List.mem_iff_getElem.1 hp
    rw [← getA_lt zP f j hj]; exact g2 j hj
  · intro ⟨_, _, h1, h2, _⟩; exact ⟨h1, h2⟩
theorem mapOk_fin {f : List Pt} {i : Nat} (hb : 2 ≤ (f.length : Int) ∧ (f.length : Int) ≤ 12) (hi : ¬ i < f.length) (g1 : i ≤ f.length) (g2 : ∀ j, j < i → ptOk (getA zP f j) = true) (g3 : ∀ j, j + 1 < i → ltR (getA zP f j).x (getA zP f (j + 1)).x) :
    (bif cmpRt (getA zP f (Int.toNat 0)).x ⟨0, 1⟩ == 0 then cmpRt (getA zP f ((f.length : Int) - 1).toNat).x ⟨1, 1⟩ == 0 else false) = mapOk f := by
  have e : i = f.length := by omega
  subst e
  have h1 := coord_good (ptOk_iff.1 (g2 0 (by omega))).1
  have h2 := coord_good (ptOk_iff.1 (g2 (f.length - 1) (by omega))).1
  rw [← mapOk_end (f := f) ⟨by omega, by omega⟩ g2 g3 rfl rfl, show Int.toNat 0 = 0 from rfl, show ((f.length : Int) - 1).toNat = f.length - 1 by omega, cmp_zero h1 good_zero, cmp_zero h2 good_one]
  cases decide ((getA zP f 0).x = ⟨0, 1⟩) <;> rfl
theorem mapOk_fin0 {f : List Pt} {i : Nat} (hb : 2 ≤ (f.length : Int) ∧ (f.length : Int) ≤ 12) (hi : ¬ i < f.length) (g1 : i ≤ f.length) (g2 : ∀ j, j < i → ptOk (getA zP f j) = true) (g3 : ∀ j, j + 1 < i → ltR (getA zP f j).x (getA zP f (j + 1)).x)
    (h : ¬ cmpRt (getA zP f (Int.toNat 0)).x ⟨0, 1⟩ = 0) : false = mapOk f := by
  rw [← mapOk_fin hb hi g1 g2 g3, beq_false_of_ne h]; rfl
end Go.Vx
