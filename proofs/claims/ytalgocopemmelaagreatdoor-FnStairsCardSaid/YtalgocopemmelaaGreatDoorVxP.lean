/- Patterns: the program's functions and the reference's. -/
import Derived.Test.YtalgocopemmelaaGreatDoorVxL
import Derived.Test.YtalgocopemmelaaGreatDoorVxF
import Derived.Test.YtalgocopemmelaaGreatDoorVpPat
namespace Go.Vx
open Go Go.Proofs
set_option maxRecDepth 100000
set_option linter.unusedSimpArgs false
set_option linter.unusedVariables false

theorem any_not' {α : Type} (p : α → Bool) (l : List α) : (!(l.any fun x => !p x)) = l.all p := by
  rw [List.not_any_eq_all_not]; simp
noncomputable def s_lib_IndexInt : Sig := ⟨31, [.list NI, .val NI], [.val NI], fun ((l : List Int), (x : Int), _) => ⟨[], (idxF (fun y => x == y) l, ()), ()⟩⟩
theorem any_contains (l : List Int) (x : Int) : (l.any fun y => x == y) = l.contains x := by rw [List.contains_eq_any_beq]
theorem ok_lib_IndexInt : GSpec Tryz.prog s_lib_IndexInt := by
  refine fn_known tab_ok fol Known.nil (by decide) Tryz.func31 ?_
  rintro ⟨(l : List Int), (x : Int), ⟨⟩⟩ ⟨hl, _⟩ _
  have hl : l.length ≤ 9223372036854775807 := hl
  refine ⟨Nat, fun i => ⟨[(8, .sc (.num .i64 i))], [100000], []⟩, fun i => i ≤ l.length ∧ (l.take i).any (fun y => x == y) = false, fun i => l.length - i, ⟨0, ⟨Nat.zero_le _, rfl⟩, ?_⟩, ?_⟩
  · repeat' (first | apply And.intro | exact True.intro | exact Lf.mk (by with_reducible rfl) | apply Lf.mk)
    all_goals rfl
  · rintro i ⟨g1, g2⟩
    repeat' (first | with_reducible apply andAll_cons | with_reducible apply andAll_nil | (with_reducible apply Cf.mk; kernel_rfl) | apply And.intro | intro _ | exact True.intro | apply Lf.mk)
    all_goals simp only [Int.toNat_natCast, Nat.zero_add, decide_eq_true_eq, decide_eq_false_iff_not, Int.ofNat_lt] at *
    all_goals first | omega | skip
    · exact (idxF_hit NI.dflt (by assumption) g2 (by assumption)).symm
    · refine ⟨i + 1, ⟨by omega, take_all_false NI.dflt (by assumption) g2 (by assumption)⟩, by omega, ?_⟩
      repeat' (first | apply And.intro | exact True.intro | exact Lf.mk (by with_reducible rfl) | apply Lf.mk)
      all_goals (rw [Int.natCast_add]; rfl)
    · rename_i h3
      rw [List.take_of_length_le (by omega)] at g2
      exact (idxF_none g2).symm
theorem rngP_all (l : List Int) : (l.all fun n => inB n 0 ((l.length : Int) - 1)) = rngP l := rfl
theorem rngP_any (l : List Int) : (l.any fun n => !inB n 0 ((l.length : Int) - 1)) = !rngP l := by
  rw [← rngP_all, List.not_all_eq_any_not]
theorem inB_len {n : Nat} {a b : Int} (h : inB (n : Int) a b = true) : a ≤ n ∧ (n : Int) ≤ b := of_decide_eq_true h
theorem patOk_no1 {l : List Int} (h : inB (l.length : Int) 1 9 = false) : patOk l = false := by unfold patOk; rw [h]; rfl
theorem patOk_no2 {l : List Int} (h : rngP l = false) : patOk l = false := by unfold patOk; rw [h]; simp
theorem patOk_no3 {l : List Int} (h : ¬ ((cyc l).length : Int) = l.length) : patOk l = false := by
  unfold patOk; rw [decide_eq_false (p := (cyc l).length = l.length) (by omega)]; simp
theorem patOk_last {l : List Int} {a : Int} (h1 : inB (l.length : Int) 1 9 = true) (h2 : rngP l = true) (h3 : ((cyc l).length : Int) = l.length) (ha : a = getA 0 l (getA 0 (cyc l) (l.length - 1)).toNat) : decide (a = 0) = patOk l := by
  unfold patOk; rw [h1, h2, decide_eq_true (p := (cyc l).length = l.length) (by omega), ha]; simp
theorem patOk_last' {l : List Int} {a : Int} (h1 : inB (l.length : Int) 1 9 = true) (h2 : rngP l = true) (h3 : ((cyc l).length : Int) = l.length) (ha : a = getA 0 l (getA 0 (cyc l) (l.length - 1)).toNat) : (bif ((cyc l).length : Int) == l.length then a == 0 else false) = patOk l := by
  rw [← patOk_last h1 h2 h3 ha, h3, beq_self_eq_true, cond_true]; rfl
theorem cyc_get {l : List Int} (h1 : inB (l.length : Int) 1 9 = true) (h2 : rngP l = true) (h3 : ((cyc l).length : Int) = l.length) : 0 ≤ getA 0 (cyc l) (l.length - 1) ∧ getA 0 (cyc l) (l.length - 1) < (l.length : Int) := by
  have := inB_len h1
  exact cyc_mem h2 (by omega) _ (getA_mem _ (by omega))
end Go.Vx
