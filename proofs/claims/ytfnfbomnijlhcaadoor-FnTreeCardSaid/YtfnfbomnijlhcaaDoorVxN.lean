/- FromContinued and ConvergentsOf: the program's functions and the reference's. -/
import Derived.Test.YtfnfbomnijlhcaaDoorVxM
import Derived.Test.YtfnfbomnijlhcaaDoorVxU
namespace Go.Vx
open Go Go.Proofs
set_option maxRecDepth 100000
set_option linter.unusedSimpArgs false
set_option linter.unusedVariables false

def minF (m x : Int) : Int := if x < m then x else m
def minL (l : List Int) : Int := (l.drop 1).foldl minF (getA NI.dflt l 0)
noncomputable def s_lib_MinInt : Sig := ⟨55, [.list NI], [.val NI], fun ((l : List Int), _) => ⟨[0 < l.length], (minL l, ()), ()⟩⟩
theorem foldl_min_lt (b : Int) : ∀ (l : List Int) (m : Int), l.foldl minF m < b ↔ (m < b ∨ ∃ x ∈ l, x < b)
  | [], m => by simp
  | a :: r, m => by
    rw [List.foldl_cons, foldl_min_lt b r]
    unfold minF
    constructor
    · rintro (h | ⟨x, hx, h⟩)
      · split at h
        · exact .inr ⟨a, by simp, h⟩
        · exact .inl h
      · exact .inr ⟨x, by simp [hx], h⟩
    · rintro (h | ⟨x, hx, h⟩)
      · left; split <;> omega
      · rcases List.mem_cons.1 hx with rfl | hx
        · left; split <;> omega
        · exact .inr ⟨x, hx, h⟩
theorem minL_lt {l : List Int} (h0 : 0 < l.length) (b : Int) : minL l < b ↔ ∃ x ∈ l, x < b := by
  match l, h0 with
  | a :: r, _ =>
    unfold minL
    rw [foldl_min_lt]
    simp [getA]
theorem ok_lib_MinInt : GSpec Tryd.prog s_lib_MinInt := by
  refine fn_known tab_ok fol Known.nil (by decide) Tryd.func55 ?_
  rintro ⟨(l : List Int), ⟨⟩⟩ ⟨hl, _⟩ ⟨h0, _⟩
  have hl : l.length ≤ 9223372036854775807 := hl
  repeat' (first | with_reducible apply andAll_cons | with_reducible apply andAll_nil | (with_reducible apply Cf.mk; kernel_rfl) | apply And.intro | intro _ | exact True.intro | apply Lf.mk)
  all_goals (try simp only [Bool.not_eq_true', Bool.not_eq_false', Bool.not_not, decide_eq_true_eq, decide_eq_false_iff_not, beq_iff_eq, bne_iff_ne, beq_eq_false_iff_ne, bne_eq_false_iff_eq, ne_eq, Bool.and_eq_true, Bool.and_eq_false_iff, Bool.or_eq_true, Bool.or_eq_false_iff, Int.toNat_natCast, Nat.zero_add, Int.ofNat_lt, Int.ofNat_le, List.length_cons, List.length_nil, List.drop_zero, List.take_length] at *)
  all_goals first | omega | skip
  refine ⟨Nat, fun i => ⟨[(4, .sc (.num .i64 ((i : Int) + 1))), (3, .sc (.num .i64 (((l.drop 1).take i).foldl minF (getA NI.dflt l 0))))], [100000], []⟩, fun i => i + 1 ≤ l.length, fun i => l.length - i, ⟨0, by omega, ?_⟩, ?_⟩
  · repeat' (first | apply And.intro | exact True.intro | exact Lf.mk (by with_reducible rfl) | apply Lf.mk)
    all_goals rfl
  · intro i g1
    repeat' (first | with_reducible apply andAll_cons | with_reducible apply andAll_nil | (with_reducible apply Cf.mk; kernel_rfl) | apply And.intro | intro _ | exact True.intro | apply Lf.mk)
    all_goals (try simp only [Bool.not_eq_true', Bool.not_eq_false', Bool.not_not, decide_eq_true_eq, decide_eq_false_iff_not, beq_iff_eq, bne_iff_ne, beq_eq_false_iff_ne, bne_eq_false_iff_eq, ne_eq, Bool.and_eq_true, Bool.and_eq_false_iff, Bool.or_eq_true, Bool.or_eq_false_iff, Int.toNat_natCast, Nat.zero_add, Int.ofNat_lt, Int.ofNat_le, List.length_cons, List.length_nil, List.drop_zero, List.take_length] at *)
    all_goals first | omega | skip
    · refine ⟨i + 1, by omega, by omega, ?_⟩
      repeat' (first | apply And.intro | exact True.intro | exact Lf.mk (by with_reducible rfl) | apply Lf.mk)
      · rw [Int.natCast_add]; rfl
      · rename_i h3
        rw [List.take_add_one, List.foldl_append]
        have h4 : (l.drop 1)[i]? = some (getA NI.dflt l (i + 1)) := by
          rw [List.getElem?_drop, Nat.add_comm 1 i, List.getElem?_eq_getElem (by omega), getA_lt _ _ _ (by omega)]
        rw [h4]
        have h5 : ((i : Int) + 1).toNat = i + 1 := by omega
        rw [h5]
        rfl
    · rw [List.take_of_length_le (by simp; omega)]; rfl
def fcOk (l : List Int) : Bool := inB l.length 1 50 && ((l.all fun n => inB n (-1000) 1000) && (((l.drop 1).all fun n => inB n 1 1000) && !(decide (1 < (l.length : Int)) && decide (getA NI.dflt l (l.length - 1) = 1))))
noncomputable def fcRes (l : List Int) : Rt × Bool := match fcOk l with
  | true => fcR l
  | false => (⟨0, 0⟩, false)
noncomputable def s_spec_FromContinued : Sig := ⟨18, [.list NI], [.val .rat, .val .bool], fun ((l : List Int), _) => ⟨[], ((fcRes l).1, (fcRes l).2, ()), ()⟩⟩
noncomputable def s_impl_FromContinued : Sig := ⟨17, [.list NI], [.val .rat, .val .bool], fun ((l : List Int), _) => ⟨[], ((fcRes l).1, (fcRes l).2, ()), ()⟩⟩
noncomputable def s_impl_FromContinued_1 : Sig := ⟨54, [.val NI], [.val .bool], fun ((n : Int), _) => ⟨[], (!inB n (-1000) 1000, ()), ()⟩⟩
theorem ok_impl_FromContinued_1 : GSpec Tryd.prog s_impl_FromContinued_1 := by
  refine fn_known tab_ok fol (Known.nil.cons ok_impl_within (by kernel_rfl)) (by decide) Tryd.func54 ?_
  rintro ⟨(n : Int), ⟨⟩⟩ hl _
  repeat' (first | with_reducible apply andAll_cons | with_reducible apply andAll_nil | (with_reducible apply Cf.mk; kernel_rfl) | apply And.intro | intro _ | exact True.intro | apply Lf.mk)
  all_goals rfl
theorem numsOk_of {l : List Int} (h : (l.all fun n => inB n (-1000) 1000) = true) : numsOk l := by
  intro x hx
  have := List.all_eq_true.1 h x hx
  simp [inB] at this
  omega
theorem fcRes_t {l : List Int} (h : fcOk l = true) : fcRes l = fcR l := by unfold fcRes; rw [h]
theorem fcRes_f {l : List Int} (h : fcOk l = false) : fcRes l = (⟨0, 0⟩, false) := by unfold fcRes; rw [h]
theorem tl1 {α : Type} (l : List α) : List.take (l.length - Int.toNat 1) (List.drop (Int.toNat 1) l) = l.drop 1 := by
  rw [show Int.toNat 1 = 1 from rfl, List.take_of_length_le (by simp)]
theorem min_all {l : List Int} (h : (l.all fun n => inB n (-1000) 1000) = true) (h2 : 1 < l.length) : (minL (l.drop 1) < 1) ↔ ((l.drop 1).all fun n => inB n 1 1000) = false := by
  rw [minL_lt (by simp; omega), List.all_eq_false]
  constructor
  · rintro ⟨x, hx, h3⟩
    exact ⟨x, hx, by simp [inB]; omega⟩
  · rintro ⟨x, hx, h3⟩
    refine ⟨x, hx, ?_⟩
    have := List.all_eq_true.1 h x (List.mem_of_mem_drop hx)
    simp [inB] at this h3
    omega
section
variable {l : List Int}
theorem fcOk_iff : fcOk l = true ↔ (inB l.length 1 50 = true ∧ (l.all fun n => inB n (-1000) 1000) = true ∧ ((l.drop 1).all fun n => inB n 1 1000) = true ∧ ¬ (1 < (l.length : Int) ∧ getA NI.dflt l (l.length - 1) = 1)) := by
  unfold fcOk
  rw [Bool.and_eq_true, Bool.and_eq_true, Bool.and_eq_true, Bool.not_eq_true', ← Bool.decide_and, decide_eq_false_iff_not]
theorem lenI (h : inB l.length 1 50 = true) : 1 ≤ l.length ∧ ((l.length : Int) - 1).toNat = l.length - 1 := by
  simp [inB] at h; omega
theorem fcN (h : ¬ fcOk l = true) : fcRes l = (⟨0, 0⟩, false) := fcRes_f (by simpa using h)
theorem fcA (h : inB l.length 1 50 = false) : fcRes l = (⟨0, 0⟩, false) := fcN fun h2 => by rw [(fcOk_iff.1 h2).1] at h; cases h
theorem fcB (h : (l.all fun n => inB n (-1000) 1000) = false) : fcRes l = (⟨0, 0⟩, false) := fcN fun h2 => by rw [(fcOk_iff.1 h2).2.1] at h; cases h
theorem any_f {α : Type} {p : α → Bool} {l : List α} (h : (l.any fun x => !p x) = false) : l.all p = true := by rw [← any_not, h]; rfl
theorem any_t {α : Type} {p : α → Bool} {l : List α} (h : (l.any fun x => !p x) = true) : l.all p = false := by rw [← any_not, h]; rfl
theorem fcC (h : ((l.drop 1).all fun n => inB n 1 1000) = false) : fcRes l = (⟨0, 0⟩, false) := fcN fun h2 => by rw [(fcOk_iff.1 h2).2.2.1] at h; cases h
theorem fcD (h0 : inB l.length 1 50 = true) (h : 1 < (l.length : Int)) (h3 : getA NI.dflt l ((l.length : Int) - 1).toNat = 1) : fcRes l = (⟨0, 0⟩, false) := fcN fun h2 => (fcOk_iff.1 h2).2.2.2 ⟨h, by rw [← (lenI h0).2]; exact h3⟩
theorem fcM (h1 : (l.any fun x => !inB x (-1000) 1000) = false) (h : 1 < (l.length : Int)) (h3 : minL (l.drop 1) < 1) : fcRes l = (⟨0, 0⟩, false) := fcC ((min_all (any_f h1) (by omega)).1 h3)
theorem fcT (h1 : inB l.length 1 50 = true) (h2 : (l.all fun n => inB n (-1000) 1000) = true) (h3 : ((l.drop 1).all fun n => inB n 1 1000) = true) (h4 : 1 < (l.length : Int)) (h5 : ¬ getA NI.dflt l ((l.length : Int) - 1).toNat = 1) : fcRes l = fcR l :=
  fcRes_t (fcOk_iff.2 ⟨h1, h2, h3, fun h => h5 (by rw [(lenI h1).2]; exact h.2)⟩)
theorem fcT1 (h1 : inB l.length 1 50 = true) (h2 : (l.all fun n => inB n (-1000) 1000) = true) (h4 : ¬ 1 < (l.length : Int)) : fcRes l = fcR l :=
  fcRes_t (fcOk_iff.2 ⟨h1, h2, by rw [List.drop_eq_nil_of_le (by omega)]; rfl, fun h => h4 h.1⟩)
theorem fcT2 (h1 : inB l.length 1 50 = true) (h2 : (l.any fun x => !inB x (-1000) 1000) = false) (h4 : 1 < (l.length : Int)) (h3 : ¬ minL (l.drop 1) < 1) (h5 : ¬ getA NI.dflt l ((l.length : Int) - 1).toNat = 1) : fcRes l = fcR l :=
  fcT h1 (any_f h2) (by rw [min_all (any_f h2) (by omega)] at h3; simpa using h3) h4 h5
end
theorem ok_spec_FromContinued : GSpec Tryd.prog s_spec_FromContinued := by
  refine fn_known tab_ok fol (((Known.nil.cons ok_spec_l1In (by kernel_rfl)).cons ok_spec_l1All (by kernel_rfl)).cons ok_spec_faFrom (by kernel_rfl)) (by decide) Tryd.func18 ?_
  rintro ⟨(l : List Int), ⟨⟩⟩ ⟨hl, _⟩ _
  have hl : l.length ≤ 9223372036854775807 := hl
  repeat' (first | with_reducible apply andAll_cons | with_reducible apply andAll_nil | (with_reducible apply Cf.mk; kernel_rfl) | apply And.intro | intro _ | exact True.intro | apply Lf.mk)
  all_goals (try simp only [Bool.not_eq_true', Bool.not_eq_false', Bool.not_not, decide_eq_true_eq, decide_eq_false_iff_not, beq_iff_eq, bne_iff_ne, beq_eq_false_iff_ne, bne_eq_false_iff_eq, ne_eq, Bool.and_eq_true, Bool.and_eq_false_iff, Bool.or_eq_true, Bool.or_eq_false_iff, Int.toNat_natCast, Nat.zero_add, Int.ofNat_lt, Int.ofNat_le, List.length_cons, List.length_nil, List.drop_zero, List.take_length] at *)
  all_goals (try simp only [tl1] at *)
  all_goals first
    | omega
    | (have e4 := lenI (by assumption); omega)
    | exact (numsOk_of (by assumption) _ (by assumption)).1
    | exact (numsOk_of (by assumption) _ (by assumption)).2
    | (rw [fcA (by assumption)]; done)
    | (rw [fcB (by assumption)]; done)
    | (rw [fcC (by assumption)]; done)
    | (rw [fcD (by assumption) (by assumption) (by assumption)]; done)
    | (rw [fcT (by assumption) (by assumption) (by assumption) (by assumption) (by assumption)]; done)
    | (rw [fcT1 (by assumption) (by assumption) (by assumption)]; done)
    | trace_state
theorem ok_impl_FromContinued : GSpec Tryd.prog s_impl_FromContinued := by
  refine fn_known tab_ok fol (((((Known.nil.cons ok_impl_within (by kernel_rfl)).cons ok_lib_ContainsFuncInt (by kernel_rfl)).cons ok_lib_MinInt (by kernel_rfl)).cons ok_impl_FromContinued_1 (by kernel_rfl)).cons ok_impl_fromContinued (by kernel_rfl)) (by decide) Tryd.func17 ?_
  rintro ⟨(l : List Int), ⟨⟩⟩ ⟨hl, _⟩ _
  have hl : l.length ≤ 9223372036854775807 := hl
  repeat' (first | with_reducible apply andAll_cons | with_reducible apply andAll_nil | (with_reducible apply Cf.mk; kernel_rfl) | apply And.intro | intro _ | exact True.intro | apply Lf.mk)
  all_goals (try simp only [Bool.not_eq_true', Bool.not_eq_false', Bool.not_not, decide_eq_true_eq, decide_eq_false_iff_not, beq_iff_eq, bne_iff_ne, beq_eq_false_iff_ne, bne_eq_false_iff_eq, ne_eq, Bool.and_eq_true, Bool.and_eq_false_iff, Bool.or_eq_true, Bool.or_eq_false_iff, Int.toNat_natCast, Nat.zero_add, Int.ofNat_lt, Int.ofNat_le, List.length_cons, List.length_nil, List.drop_zero, List.take_length] at *)
  all_goals (try simp only [tl1] at *)
  all_goals first
    | omega
    | trivial
    | (have e4 := lenI (by assumption); omega)
    | (have e4 := lenI (by assumption); simp; omega)
    | exact (numsOk_of (any_f (by assumption)) _ (by assumption)).1
    | exact (numsOk_of (any_f (by assumption)) _ (by assumption)).2
    | (rw [fcA (by assumption)]; done)
    | (rw [fcB (any_t (by assumption))]; done)
    | (rw [fcM (by assumption) (by assumption) (by assumption)]; done)
    | (rw [fcD (by assumption) (by assumption) (by assumption)]; done)
    | (rw [fcT2 (by assumption) (by assumption) (by assumption) (by assumption) (by assumption)]; done)
    | (rw [fcT1 (by assumption) (any_f (by assumption)) (by assumption)]; done)
    | trace_state
end Go.Vx
