/- The laws' own helpers: equality of results, marks written into them, copies of arguments. -/
import Derived.Test.YtfnfbomnijlhcaaDoorVxA
namespace Go.Vx
open Go Go.Proofs
set_option maxRecDepth 100000
set_option linter.unusedSimpArgs false
set_option linter.unusedVariables false

def mkI (k : Int) (n : Nat) : List Int := (List.range n).map fun (i : Nat) => k + (i : Int)
def mkR (k : Int) (n : Nat) : List Rt := (List.range n).map fun (i : Nat) => ⟨k + 2 * (i : Int), k + 2 * (i : Int) + 1⟩

theorem mkI_length (k : Int) (n : Nat) : (mkI k n).length = n := by simp [mkI]
theorem mkR_length (k : Int) (n : Nat) : (mkR k n).length = n := by simp [mkR]
theorem getA_lt {α : Type} (d : α) (l : List α) (i : Nat) (h : i < l.length) : getA d l i = l[i] := by
  rw [getA_eq]; simp [List.getD, h]
theorem take_eq_succ {α : Type} (d : α) (a b : List α) (i : Nat) (ha : i < a.length) (hb : i < b.length) (h : a.take i = b.take i) (hx : getA d a i = getA d b i) : a.take (i + 1) = b.take (i + 1) := by
  rw [getA_lt d a i ha, getA_lt d b i hb] at hx
  rw [List.take_add_one, List.take_add_one, h, List.getElem?_eq_getElem ha, List.getElem?_eq_getElem hb, hx]
theorem eq_of_take {α : Type} {a b : List α} {i : Nat} (hl : a.length = b.length) (hi : ¬ i < a.length) (h : a.take i = b.take i) : a = b := by
  rwa [List.take_of_length_le (by omega), List.take_of_length_le (by omega)] at h
theorem set_mark {α : Type} (f : Nat → α) (l : List α) (i : Nat) (x : α) (hi : i < l.length) (hx : x = f i) :
    (((List.range i).map f ++ l.drop i).set i x) = (List.range (i + 1)).map f ++ l.drop (i + 1) := by
  subst hx
  rw [List.set_append_right _ _ (by simp)]
  simp only [List.length_map, List.length_range, Nat.sub_self]
  rw [List.drop_eq_getElem_cons hi, List.set_cons_zero, List.range_succ, List.map_append, List.append_assoc]
  rfl
theorem getA_mark {α : Type} (d : α) (f : Nat → α) (l : List α) (i : Nat) (hi : i < l.length) : getA d ((List.range i).map f ++ l.drop i) i = getA d l i := by
  rw [getA_eq, getA_eq, List.getD, List.getD, List.getElem?_append_right (by simp)]
  simp
theorem mark_length {α : Type} (f : Nat → α) (l : List α) (i : Nat) (hi : i ≤ l.length) : ((List.range i).map f ++ l.drop i).length = l.length := by simp; omega
theorem mark_end {α : Type} (f : Nat → α) (l : List α) (i : Nat) (hi : ¬ i < l.length) (hi' : i ≤ l.length) : (List.range i).map f ++ l.drop i = (List.range l.length).map f := by
  have : i = l.length := by omega
  subst this; simp
theorem take_range_succ {α : Type} (d : α) (f : Nat → α) (l : List α) (i : Nat) (hi : i < l.length) (h : l.take i = (List.range i).map f) (hx : getA d l i = f i) : l.take (i + 1) = (List.range (i + 1)).map f := by
  rw [getA_lt d l i hi] at hx
  rw [List.take_add_one, h, List.getElem?_eq_getElem hi, hx, List.range_succ, List.map_append]; rfl
theorem ne_range {α : Type} (d : α) (f : Nat → α) (l : List α) (i : Nat) (hi : i < l.length) (hx : getA d l i ≠ f i) : l ≠ (List.range l.length).map f := by
  intro h
  apply hx
  rw [getA_lt d l i hi]
  rw [List.getElem_of_eq h hi]; simp

noncomputable def s_laws_eqRat : Sig := ⟨62, [.val .rat, .val .rat], [.val .bool], fun ((a : Rt), (b : Rt), _) => ⟨[], (decide (a = b), ()), ()⟩⟩

theorem ok_laws_eqRat : GSpec Tryd.prog s_laws_eqRat := by
  refine fn_known tab_ok fol Known.nil (by decide) Tryd.func62 ?_
  rintro ⟨⟨(n : Int), (d : Int)⟩, ⟨(m : Int), (e : Int)⟩, ⟨⟩⟩ hl _
  repeat' (first | with_reducible apply andAll_cons | with_reducible apply andAll_nil | (with_reducible apply Cf.mk; kernel_rfl) | apply And.intro | intro _ | exact True.intro | apply Lf.mk)
  all_goals (try simp only [Bool.not_eq_true', Bool.not_eq_false', Bool.not_not, decide_eq_true_eq, decide_eq_false_iff_not, beq_iff_eq, bne_iff_ne, beq_eq_false_iff_ne, bne_eq_false_iff_eq, ne_eq, Bool.and_eq_true, Bool.and_eq_false_iff, Bool.or_eq_true, Bool.or_eq_false_iff, Int.toNat_natCast, Nat.zero_add, Int.ofNat_lt, Int.ofNat_le, List.length_cons, List.length_nil, List.drop_zero, List.take_length] at *)
  all_goals (try change @Eq Bool _ _)
  all_goals simp_all





noncomputable def s_laws_eqRatS : Sig := ⟨26, [.list .rat, .list .rat], [.val .bool], fun ((a : List Rt), (b : List Rt), _) => ⟨[], (decide (a = b), ()), ()⟩⟩

theorem ok_laws_eqRatS : GSpec Tryd.prog s_laws_eqRatS := by
  refine fn_known tab_ok fol (Known.nil.cons ok_laws_eqRat (by kernel_rfl)) (by decide) Tryd.func26 ?_
  rintro ⟨(a : List Rt), (b : List Rt), ⟨⟩⟩ ⟨hl, hl', _⟩ _
  have hl : a.length ≤ 9223372036854775807 := hl
  repeat' (first | with_reducible apply andAll_cons | with_reducible apply andAll_nil | (with_reducible apply Cf.mk; kernel_rfl) | apply And.intro | intro _ | exact True.intro | apply Lf.mk)
  all_goals (try simp only [Bool.not_eq_true', Bool.not_eq_false', Bool.not_not, decide_eq_true_eq, decide_eq_false_iff_not, beq_iff_eq, bne_iff_ne, beq_eq_false_iff_ne, bne_eq_false_iff_eq, ne_eq, Bool.and_eq_true, Bool.and_eq_false_iff, Bool.or_eq_true, Bool.or_eq_false_iff, Int.toNat_natCast, Nat.zero_add, Int.ofNat_lt, Int.ofNat_le, List.length_cons, List.length_nil, List.drop_zero, List.take_length] at *)
  · rename_i h; change false = decide (a = b); symm; rw [decide_eq_false_iff_not]; intro h2; apply h; rw [h2]
  · rename_i h
    have h : a.length = b.length := by omega
    refine ⟨Nat, fun i => ⟨[(5, .sc (.num .i64 i))], [100000, 100001], []⟩, fun i => i ≤ a.length ∧ a.take i = b.take i, fun i => a.length - i, ⟨0, ?_, ?_⟩, ?_⟩
    · exact ⟨Nat.zero_le _, rfl⟩
    · repeat' (first | apply And.intro | exact True.intro | exact Lf.mk (by with_reducible rfl) | apply Lf.mk)
      all_goals rfl
    · rintro i ⟨g1, g2⟩
      repeat' (first | with_reducible apply andAll_cons | with_reducible apply andAll_nil | (with_reducible apply Cf.mk; kernel_rfl) | apply And.intro | intro _ | exact True.intro | apply Lf.mk)
      all_goals (try simp only [Bool.not_eq_true', Bool.not_eq_false', Bool.not_not, decide_eq_true_eq, decide_eq_false_iff_not, beq_iff_eq, bne_iff_ne, beq_eq_false_iff_ne, bne_eq_false_iff_eq, ne_eq, Bool.and_eq_true, Bool.and_eq_false_iff, Bool.or_eq_true, Bool.or_eq_false_iff, Int.toNat_natCast, Nat.zero_add, Int.ofNat_lt, Int.ofNat_le, List.length_cons, List.length_nil, List.drop_zero, List.take_length] at *)
      all_goals first | omega | skip
      · rename_i h3 h4; change false = decide (a = b); symm; rw [decide_eq_false_iff_not]; intro h2; apply h4; rw [h2]
      · rename_i h3 h4
        refine ⟨i + 1, ⟨by omega, take_eq_succ VK.rat.dflt a b i h3 (by omega) g2 h4⟩, by omega, ?_⟩
        repeat' (first | apply And.intro | exact True.intro | exact Lf.mk (by with_reducible rfl) | apply Lf.mk)
        all_goals rfl
      · rename_i h3; change true = decide (a = b); symm; rw [decide_eq_true_eq]; exact eq_of_take h h3 g2



noncomputable def s_laws_toRat : Sig := ⟨59, [.val .rat], [.val .rat], fun ((a : Rt), _) => ⟨[], (a, ()), ()⟩⟩
theorem ok_laws_toRat : GSpec Tryd.prog s_laws_toRat := by
  refine fn_known tab_ok fol Known.nil (by decide) Tryd.func59 ?_
  rintro ⟨⟨(n : Int), (d : Int)⟩, ⟨⟩⟩ hl _
  repeat' (first | with_reducible apply andAll_cons | with_reducible apply andAll_nil | (with_reducible apply Cf.mk; kernel_rfl) | apply And.intro | intro _ | exact True.intro | apply Lf.mk)
  all_goals rfl
noncomputable def s_spec_l1All : Sig := ⟨56, [.list NI, .val NI, .val NI], [.val .bool], fun ((l : List Int), (lo : Int), (hi : Int), _) => ⟨[], ((l.all fun n => inB n lo hi), ()), ()⟩⟩
theorem ok_spec_l1All : GSpec Tryd.prog s_spec_l1All := by
  refine fn_known tab_ok fol (Known.nil.cons ok_spec_l1In (by kernel_rfl)) (by decide) Tryd.func56 ?_
  rintro ⟨(l : List Int), (lo : Int), (hi : Int), ⟨⟩⟩ ⟨hl, _⟩ _
  have hl : l.length ≤ 9223372036854775807 := hl
  refine ⟨Nat, fun i => ⟨[(11, .sc (.num .i64 i))], [100000], []⟩, fun i => i ≤ l.length ∧ (l.take i).all (fun n => inB n lo hi) = true, fun i => l.length - i, ⟨0, ⟨Nat.zero_le _, rfl⟩, ?_⟩, ?_⟩
  · repeat' (first | apply And.intro | exact True.intro | exact Lf.mk (by with_reducible rfl) | apply Lf.mk)
    all_goals rfl
  · rintro i ⟨g1, g2⟩
    repeat' (first | with_reducible apply andAll_cons | with_reducible apply andAll_nil | (with_reducible apply Cf.mk; kernel_rfl) | apply And.intro | intro _ | exact True.intro | apply Lf.mk)
    all_goals (try simp only [Bool.not_eq_true', Bool.not_eq_false', Bool.not_not, decide_eq_true_eq, decide_eq_false_iff_not, beq_iff_eq, bne_iff_ne, beq_eq_false_iff_ne, bne_eq_false_iff_eq, ne_eq, Bool.and_eq_true, Bool.and_eq_false_iff, Bool.or_eq_true, Bool.or_eq_false_iff, Int.toNat_natCast, Nat.zero_add, Int.ofNat_lt, Int.ofNat_le, List.length_cons, List.length_nil, List.drop_zero, List.take_length] at *)
    all_goals first | omega | skip
    · exact (all_false_of _ NI.dflt l i (by assumption) (by assumption)).symm
    · refine ⟨i + 1, ⟨by omega, ?_⟩, by omega, ?_⟩
      · rw [all_take_succ _ NI.dflt l i (by assumption), g2]; simpa using (by assumption)
      · repeat' (first | apply And.intro | exact True.intro | exact Lf.mk (by with_reducible rfl) | apply Lf.mk)
        all_goals (rw [Int.natCast_add]; rfl)
    · rw [List.take_of_length_le (by omega)] at g2
      exact g2.symm
end Go.Vx
