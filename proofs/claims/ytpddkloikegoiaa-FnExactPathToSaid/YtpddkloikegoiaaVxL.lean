/- The laws' own helpers: equality of results, marks written into them, copies of arguments. -/
import Derived.Test.YtpddkloikegoiaaVxA
namespace Go.Vx
open Go Go.Proofs
set_option maxRecDepth 100000
set_option linter.unusedSimpArgs false
set_option linter.unusedVariables false

def mkI (k : Int) (n : Nat) : List Int := (List.range n).map fun (i : Nat) => k + (i : Int)
def mkR (k : Int) (n : Nat) : List Rt := (List.range n).map fun (i : Nat) => ⟨k + 2 * (i : Int), k + 2 * (i : Int) + 1⟩

theorem mkI_length (k : Int) (n : Nat) : (mkI k n).length = n := by simp [mkI]
theorem mkR_length (k : Int) (n : Nat) : (mkR k n).length = n := by simp [mkR]
theorem getA_lt {α : Type} (d : α) (l : List α) (i : Nat) (h : i < l.length) : getA d l i = l[i] := by
  rw [getA_eq]; simp [List.getD, h]
theorem take_eq_succ {α : Type} (d : α) (a b : List α) (i : Nat) (ha : i < a.length) (hb : i < b.length) (h : a.take i = b.take i) (hx : getA d a i = getA d b i) : a.take (i + 1) = b.take (i + 1) := by
  rw [getA_lt d a i ha, getA_lt d b i hb] at hx
  rw [List.take_add_one, List.take_add_one, h, List.getElem?_eq_getElem ha, List.getElem?_eq_getElem hb, hx]
theorem eq_of_take {α : Type} {a b : List α} {i : Nat} (hl : a.length = b.length) (hi : ¬ i < a.length) (h : a.take i = b.take i) : a = b := by
  rwa [List.take_of_length_le (by omega), List.take_of_length_le (by omega)] at h
theorem set_mark {α : Type} (f : Nat → α) (l : List α) (i : Nat) (x : α) (hi : i < l.length) (hx : x = f i) :
    (((List.range i).map f ++ l.drop i).set i x) = (List.range (i + 1)).map f ++ l.drop (i + 1) := by
  subst hx
  rw [List.set_append_right _ _ (by simp)]
  simp only [List.length_map, List.length_range, Nat.sub_self]
  rw [List.drop_eq_getElem_cons hi, List.set_cons_zero, List.range_succ, List.map_append, List.append_assoc]
  rfl
theorem getA_mark {α : Type} (d : α) (f : Nat → α) (l : List α) (i : Nat) (hi : i < l.length) : getA d ((List.range i).map f ++ l.drop i) i = getA d l i := by
  rw [getA_eq, getA_eq, List.getD, List.getD, List.getElem?_append_right (by simp)]
  simp
theorem mark_length {α : Type} (f : Nat → α) (l : List α) (i : Nat) (hi : i ≤ l.length) : ((List.range i).map f ++ l.drop i).length = l.length := by simp; omega
theorem mark_end {α : Type} (f : Nat → α) (l : List α) (i : Nat) (hi : ¬ i < l.length) (hi' : i ≤ l.length) : (List.range i).map f ++ l.drop i = (List.range l.length).map f := by
  have : i = l.length := by omega
  subst this; simp
theorem take_range_succ {α : Type} (d : α) (f : Nat → α) (l : List α) (i : Nat) (hi : i < l.length) (h : l.take i = (List.range i).map f) (hx : getA d l i = f i) : l.take (i + 1) = (List.range (i + 1)).map f := by
  rw [getA_lt d l i hi] at hx
  rw [List.take_add_one, h, List.getElem?_eq_getElem hi, hx, List.range_succ, List.map_append]; rfl
theorem ne_range {α : Type} (d : α) (f : Nat → α) (l : List α) (i : Nat) (hi : i < l.length) (hx : getA d l i ≠ f i) : l ≠ (List.range l.length).map f := by
  intro h
  apply hx
  rw [getA_lt d l i hi]
  rw [List.getElem_of_eq h hi]; simp

noncomputable def s_laws_eqRat : Sig := ⟨12, [.val .rat, .val .rat], [.val .bool], fun ((a : Rt), (b : Rt), _) => ⟨[], (decide (a = b), ()), ()⟩⟩

theorem ok_laws_eqRat : GSpec Try.prog s_laws_eqRat := by
  refine fn_known tab_ok fol Known.nil (by decide) Try.func12 ?_
  rintro ⟨⟨(n : Int), (d : Int)⟩, ⟨(m : Int), (e : Int)⟩, ⟨⟩⟩ hl _
  repeat' (first | with_reducible apply andAll_cons | with_reducible apply andAll_nil | (with_reducible apply Cf.mk; kernel_rfl) | apply And.intro | intro _ | exact True.intro | apply Lf.mk)
  all_goals (try simp only [Bool.not_eq_true', Bool.not_eq_false', Bool.not_not, decide_eq_true_eq, decide_eq_false_iff_not, beq_iff_eq, bne_iff_ne, beq_eq_false_iff_ne, bne_eq_false_iff_eq, ne_eq, Bool.and_eq_true, Bool.and_eq_false_iff, Bool.or_eq_true, Bool.or_eq_false_iff, Int.toNat_natCast, Nat.zero_add, Int.ofNat_lt, Int.ofNat_le, List.length_cons, List.length_nil, List.drop_zero, List.take_length] at *)
  all_goals (try change @Eq Bool _ _)
  all_goals simp_all





noncomputable def s_laws_eqRatS : Sig := ⟨17, [.list .rat, .list .rat], [.val .bool], fun ((a : List Rt), (b : List Rt), _) => ⟨[], (decide (a = b), ()), ()⟩⟩
noncomputable def s_laws_markRatS : Sig := ⟨18, [.mrow 24 .rat, .val NI], [.val NI], fun ((l : List Rt), (k : Int), _) => ⟨[0 ≤ k, k + 2 * l.length ≤ 4000000000000000000], (k + 2 * l.length, ()), mkR k l.length, ()⟩⟩
noncomputable def s_laws_heldRatS : Sig := ⟨19, [.list .rat, .val NI], [.val NI], fun ((l : List Rt), (k : Int), _) => ⟨[0 ≤ k, k + 2 * l.length ≤ 4000000000000000000], ((if l = mkR k l.length then k + 2 * l.length else -1 : Int), ()), ()⟩⟩

theorem ok_laws_eqRatS : GSpec Try.prog s_laws_eqRatS := by
  refine fn_known tab_ok fol (Known.nil.cons ok_laws_eqRat (by kernel_rfl)) (by decide) Try.func17 ?_
  rintro ⟨(a : List Rt), (b : List Rt), ⟨⟩⟩ ⟨hl, hl', _⟩ _
  have hl : a.length ≤ 9223372036854775807 := hl
  repeat' (first | with_reducible apply andAll_cons | with_reducible apply andAll_nil | (with_reducible apply Cf.mk; kernel_rfl) | apply And.intro | intro _ | exact True.intro | apply Lf.mk)
  all_goals (try simp only [Bool.not_eq_true', Bool.not_eq_false', Bool.not_not, decide_eq_true_eq, decide_eq_false_iff_not, beq_iff_eq, bne_iff_ne, beq_eq_false_iff_ne, bne_eq_false_iff_eq, ne_eq, Bool.and_eq_true, Bool.and_eq_false_iff, Bool.or_eq_true, Bool.or_eq_false_iff, Int.toNat_natCast, Nat.zero_add, Int.ofNat_lt, Int.ofNat_le, List.length_cons, List.length_nil, List.drop_zero, List.take_length] at *)
  · rename_i h; change false = decide (a = b); symm; rw [decide_eq_false_iff_not]; intro h2; apply h; rw [h2]
  · rename_i h
    have h : a.length = b.length := by omega
    refine ⟨Nat, fun i => ⟨[(5, .sc (.num .i64 i))], [100000, 100001], []⟩, fun i => i ≤ a.length ∧ a.take i = b.take i, fun i => a.length - i, ⟨0, ?_, ?_⟩, ?_⟩
    · exact ⟨Nat.zero_le _, rfl⟩
    · repeat' (first | apply And.intro | exact True.intro | exact Lf.mk (by with_reducible rfl) | apply Lf.mk)
      all_goals rfl
    · rintro i ⟨g1, g2⟩
      repeat' (first | with_reducible apply andAll_cons | with_reducible apply andAll_nil | (with_reducible apply Cf.mk; kernel_rfl) | apply And.intro | intro _ | exact True.intro | apply Lf.mk)
      all_goals (try simp only [Bool.not_eq_true', Bool.not_eq_false', Bool.not_not, decide_eq_true_eq, decide_eq_false_iff_not, beq_iff_eq, bne_iff_ne, beq_eq_false_iff_ne, bne_eq_false_iff_eq, ne_eq, Bool.and_eq_true, Bool.and_eq_false_iff, Bool.or_eq_true, Bool.or_eq_false_iff, Int.toNat_natCast, Nat.zero_add, Int.ofNat_lt, Int.ofNat_le, List.length_cons, List.length_nil, List.drop_zero, List.take_length] at *)
      all_goals first | omega | skip
      · rename_i h3 h4; change false = decide (a = b); symm; rw [decide_eq_false_iff_not]; intro h2; apply h4; rw [h2]
      · rename_i h3 h4
        refine ⟨i + 1, ⟨by omega, take_eq_succ VK.rat.dflt a b i h3 (by omega) g2 h4⟩, by omega, ?_⟩
        repeat' (first | apply And.intro | exact True.intro | exact Lf.mk (by with_reducible rfl) | apply Lf.mk)
        all_goals rfl
      · rename_i h3; change true = decide (a = b); symm; rw [decide_eq_true_eq]; exact eq_of_take h h3 g2

theorem ok_laws_markRatS : GSpec Try.prog s_laws_markRatS := by
  refine fn_known tab_ok fol Known.nil (by decide) Try.func18 ?_
  rintro ⟨(l : List Rt), (k : Int), ⟨⟩⟩ ⟨hl, _⟩ ⟨h1, h2, _⟩
  have hl : l.length ≤ 9223372036854775807 := hl
  refine ⟨Nat, fun i => ⟨[(5, .sc (.num .i64 i)), (1, .sc (.num .i64 (k + 2 * i)))], [], [(100000, .row 24 .rat ((List.range i).map (fun (i : Nat) => (⟨k + 2 * (i : Int), k + 2 * (i : Int) + 1⟩ : Rt)) ++ l.drop i))]⟩, fun i => i ≤ l.length, fun i => l.length - i, ⟨0, Nat.zero_le _, ?_⟩, ?_⟩
  · repeat' (first | apply And.intro | exact True.intro | exact Lf.mk (by with_reducible rfl) | apply Lf.mk)
    all_goals first | rfl | simp
  · intro i g1
    have hm := mark_length (fun (i : Nat) => (⟨k + 2 * (i : Int), k + 2 * (i : Int) + 1⟩ : Rt)) l i g1
    repeat' (first | with_reducible apply andAll_cons | with_reducible apply andAll_nil | (with_reducible apply Cf.mk; kernel_rfl) | apply And.intro | intro _ | exact True.intro | apply Lf.mk)
    all_goals simp only [List.length_set, hm] at *
    all_goals (try simp only [Bool.not_eq_true', Bool.not_eq_false', Bool.not_not, decide_eq_true_eq, decide_eq_false_iff_not, beq_iff_eq, bne_iff_ne, beq_eq_false_iff_ne, bne_eq_false_iff_eq, ne_eq, Bool.and_eq_true, Bool.and_eq_false_iff, Bool.or_eq_true, Bool.or_eq_false_iff, Int.toNat_natCast, Nat.zero_add, Int.ofNat_lt, Int.ofNat_le, List.length_cons, List.length_nil, List.drop_zero, List.take_length] at *)
    all_goals first | omega | skip
    · rename_i h3
      refine ⟨i + 1, by omega, by omega, ?_⟩
      repeat' (first | apply And.intro | exact True.intro | exact Lf.mk (by with_reducible rfl) | apply Lf.mk)
      · rw [Int.natCast_add]; rfl
      · rw [Int.natCast_add]; omega
      · rw [List.set_set]
        exact set_mark (fun (i : Nat) => (⟨k + 2 * (i : Int), k + 2 * (i : Int) + 1⟩ : Rt)) l i _ h3 (by rw [getA_lt _ _ _ (by simp; omega), List.getElem_set_self])
    · have : i = l.length := by omega
      rw [this]
    · rename_i h3
      exact mark_end _ l i h3 g1

theorem ok_laws_heldRatS : GSpec Try.prog s_laws_heldRatS := by
  refine fn_known tab_ok fol Known.nil (by decide) Try.func19 ?_
  rintro ⟨(l : List Rt), (k : Int), ⟨⟩⟩ ⟨hl, _⟩ ⟨h1, h2, _⟩
  have hl : l.length ≤ 9223372036854775807 := hl
  refine ⟨Nat, fun i => ⟨[(5, .sc (.num .i64 i)), (1, .sc (.num .i64 (k + 2 * i)))], [100000], []⟩, fun i => i ≤ l.length ∧ l.take i = (List.range i).map (fun (i : Nat) => (⟨k + 2 * (i : Int), k + 2 * (i : Int) + 1⟩ : Rt)), fun i => l.length - i, ⟨0, ⟨Nat.zero_le _, rfl⟩, ?_⟩, ?_⟩
  · repeat' (first | apply And.intro | exact True.intro | exact Lf.mk (by with_reducible rfl) | apply Lf.mk)
    all_goals first | rfl | simp
  · rintro i ⟨g1, g2⟩
    have no : ∀ (h3 : i < l.length), getA VK.rat.dflt l i ≠ ⟨k + 2 * (i : Int), k + 2 * (i : Int) + 1⟩ → ¬ l = mkR k l.length := fun h3 h4 =>
      ne_range VK.rat.dflt (fun (i : Nat) => (⟨k + 2 * (i : Int), k + 2 * (i : Int) + 1⟩ : Rt)) l i h3 h4
    repeat' (first | with_reducible apply andAll_cons | with_reducible apply andAll_nil | (with_reducible apply Cf.mk; kernel_rfl) | apply And.intro | intro _ | exact True.intro | apply Lf.mk)
    all_goals (try simp only [Bool.not_eq_true', Bool.not_eq_false', Bool.not_not, decide_eq_true_eq, decide_eq_false_iff_not, beq_iff_eq, bne_iff_ne, beq_eq_false_iff_ne, bne_eq_false_iff_eq, ne_eq, Bool.and_eq_true, Bool.and_eq_false_iff, Bool.or_eq_true, Bool.or_eq_false_iff, Int.toNat_natCast, Nat.zero_add, Int.ofNat_lt, Int.ofNat_le, List.length_cons, List.length_nil, List.drop_zero, List.take_length] at *)
    all_goals first | omega | skip
    · rename_i h3 h4
      exact (if_neg (no h3 (fun h => h4 (by rw [h])))).symm
    · rename_i h3 h5 h4
      exact (if_neg (no h3 (fun h => h4 (by rw [h])))).symm
    · rename_i h3 h4 h5
      refine ⟨i + 1, ⟨by omega, take_range_succ VK.rat.dflt _ l i h3 g2 ?_⟩, by omega, ?_⟩
      · rw [← h5, ← h4]
      · repeat' (first | apply And.intro | exact True.intro | exact Lf.mk (by with_reducible rfl) | apply Lf.mk)
        · rw [Int.natCast_add]; rfl
        · rw [Int.natCast_add]; omega
    · have : i = l.length := by omega
      subst this
      rw [List.take_of_length_le (Nat.le_refl _)] at g2
      exact (if_pos (g2 : l = mkR k l.length)).symm

noncomputable def s_laws_toRat : Sig := ⟨10, [.val .rat], [.val .rat], fun ((a : Rt), _) => ⟨[], (a, ()), ()⟩⟩
theorem ok_laws_toRat : GSpec Try.prog s_laws_toRat := by
  refine fn_known tab_ok fol Known.nil (by decide) Try.func10 ?_
  rintro ⟨⟨(n : Int), (d : Int)⟩, ⟨⟩⟩ hl _
  repeat' (first | with_reducible apply andAll_cons | with_reducible apply andAll_nil | (with_reducible apply Cf.mk; kernel_rfl) | apply And.intro | intro _ | exact True.intro | apply Lf.mk)
  all_goals rfl
end Go.Vx
