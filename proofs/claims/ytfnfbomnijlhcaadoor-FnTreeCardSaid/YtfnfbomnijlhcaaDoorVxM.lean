/- Continued fractions put together: the program's functions and the reference's. -/
import Derived.Test.YtfnfbomnijlhcaaDoorVxE
import Derived.Test.YtfnfbomnijlhcaaDoorVxF
import Derived.Test.YtfnfbomnijlhcaaDoorVxK
namespace Go.Vx
open Go Go.Proofs
set_option maxRecDepth 100000
set_option linter.unusedSimpArgs false
set_option linter.unusedVariables false

def numsOk (l : List Int) : Prop := ∀ x ∈ l, -1000000000 ≤ x ∧ x ≤ 1000000000
theorem numsOk_get {l : List Int} (h : numsOk l) (i : Nat) (hi : i < l.length) : -1000000000 ≤ getA NI.dflt l i ∧ getA NI.dflt l i ≤ 1000000000 := h _ (getA_mem _ hi)
theorem drop_get {α : Type} (d : α) (l : List α) (i : Nat) (h : i < l.length) : l.drop i = getA d l i :: l.drop (i + 1) := by
  rw [List.drop_eq_getElem_cons h, getA_eq]; simp [List.getD, h]

noncomputable def s_impl_fromContinued : Sig := ⟨49, [.list NI], [.val .rat, .val .bool], fun ((l : List Int), _) => ⟨[0 < l.length, numsOk l], ((fcR l).1, (fcR l).2, ()), ()⟩⟩
noncomputable def s_spec_faFrom : Sig := ⟨50, [.list NI], [.val .rat, .val .bool], fun ((l : List Int), _) => ⟨[0 < l.length, numsOk l], ((fcR l).1, (fcR l).2, ()), ()⟩⟩

theorem ok_impl_fromContinued : GSpec Tryd.prog s_impl_fromContinued := by
  refine fn_known tab_ok fol ((((Known.nil.cons ok_impl_whole (by kernel_rfl)).cons ok_impl_oneRat (by kernel_rfl)).cons ok_calc_add (by kernel_rfl)).cons ok_calc_div (by kernel_rfl)) (by decide) Tryd.func49 ?_
  rintro ⟨(l : List Int), ⟨⟩⟩ ⟨hl, _⟩ ⟨h0, hn, _⟩
  have hl : l.length ≤ 9223372036854775807 := hl
  obtain ⟨N, hN⟩ : ∃ N, l.length = N + 1 := ⟨l.length - 1, by omega⟩
  have e0 : ((l.length : Int) - 1).toNat = N := by omega
  repeat' (first | with_reducible apply andAll_cons | with_reducible apply andAll_nil | (with_reducible apply Cf.mk; kernel_rfl) | apply And.intro | intro _ | exact True.intro | apply Lf.mk)
  all_goals (try simp only [Bool.not_eq_true', Bool.not_eq_false', Bool.not_not, decide_eq_true_eq, decide_eq_false_iff_not, beq_iff_eq, bne_iff_ne, beq_eq_false_iff_ne, bne_eq_false_iff_eq, ne_eq, Bool.and_eq_true, Bool.and_eq_false_iff, Bool.or_eq_true, Bool.or_eq_false_iff, Int.toNat_natCast, Nat.zero_add, Int.ofNat_lt, Int.ofNat_le, List.length_cons, List.length_nil, List.drop_zero, List.take_length] at *)
  all_goals first | omega | skip
  refine ⟨Nat × Rt × Bool, fun x => ⟨[(6, .sc (.num .i64 ((x.1 : Int) - 1)))], [100000, 2], [(5, .box 24 [.num .i64 x.2.1.num, .num .i64 x.2.1.den]), (4, .box cT [.bool x.2.2])]⟩,
    fun x => x.1 < l.length ∧ goodRt x.2.1 = true ∧ (x.2.2 = false → fcR (l.drop x.1) = (x.2.1, true)) ∧ (x.2.2 = true → (fcR (l.drop x.1)).2 = false), fun x => x.1,
    ⟨(N, ⟨getA NI.dflt l N, 1⟩, false), ?_, ?_⟩, ?_⟩
  · have hx := numsOk_get hn N (by omega)
    refine ⟨by dsimp only; omega, good_whole hx, fun _ => ?_, fun h => by cases h⟩
    dsimp only
    rw [drop_get NI.dflt l N (by omega), List.drop_eq_nil_of_le (by omega)]
    rfl
  · repeat' (first | apply And.intro | exact True.intro | exact Lf.mk (by with_reducible rfl) | apply Lf.mk)
    all_goals first | omega | (rw [e0])
  · rintro ⟨m, ⟨n, d⟩, bad⟩ ⟨g1, g2, g3, g4⟩
    dsimp only at g1 g2 g3 g4
    have e1 : ((m : Int) - 1).toNat = m - 1 := by omega
    have hx := numsOk_get hn (m - 1) (by omega)
    repeat' (first | with_reducible apply andAll_cons | with_reducible apply andAll_nil | (with_reducible apply Cf.mk; kernel_rfl) | apply And.intro | intro _ | exact True.intro | apply Lf.mk)
    all_goals (try simp only [Bool.not_eq_true', Bool.not_eq_false', Bool.not_not, decide_eq_true_eq, decide_eq_false_iff_not, beq_iff_eq, bne_iff_ne, beq_eq_false_iff_ne, bne_eq_false_iff_eq, ne_eq, Bool.and_eq_true, Bool.and_eq_false_iff, Bool.or_eq_true, Bool.or_eq_false_iff, Int.toNat_natCast, Nat.zero_add, Int.ofNat_lt, Int.ofNat_le, List.length_cons, List.length_nil, List.drop_zero, List.take_length] at *)
    all_goals (try simp only [e1] at *)
    all_goals first | omega | exact good_one | exact good_whole hx | exact opR_good | skip
    · have hm : 0 < m := by omega
      have hd : l.drop (m - 1) = getA NI.dflt l (m - 1) :: l.drop m := by
        have := drop_get NI.dflt l (m - 1) (by omega)
        rwa [show m - 1 + 1 = m by omega] at this
      have hne : l.drop m ≠ [] := by intro h; have := congrArg List.length h; simp at this; omega
      refine ⟨(m - 1, opR (addRt ⟨getA NI.dflt l (m - 1), 1⟩ (opR (divRt ⟨1, 1⟩ ⟨n, d⟩))), (bad || !(divRt ⟨1, 1⟩ ⟨n, d⟩).2) || !(addRt ⟨getA NI.dflt l (m - 1), 1⟩ (opR (divRt ⟨1, 1⟩ ⟨n, d⟩))).2), ⟨?_, opR_good, ?_, ?_⟩, ?_, ?_⟩
      · dsimp only; omega
      · intro h
        simp only [Bool.or_eq_false_iff, Bool.not_eq_false'] at h
        obtain ⟨⟨h1, h2⟩, h3⟩ := h
        dsimp only
        rw [hd, fcR_add hne (g3 h1) h2]
        rw [opR_t h2] at h3
        rw [opR_t h2, opR_t h3]
        exact pair_t h3
      · intro h
        dsimp only
        rw [hd]
        cases h1 : bad
        · cases h2 : (divRt ⟨1, 1⟩ ⟨n, d⟩).2
          · exact fcR_div hne (g3 h1) h2
          · rw [fcR_add hne (g3 h1) h2]
            dsimp only at h
            rw [h1, h2, opR_t h2] at h
            simpa using h
        · exact fcR_cons_bad hne (g4 h1)
      · dsimp only; omega
      · repeat' (first | apply And.intro | exact True.intro | exact Lf.mk (by with_reducible rfl) | apply Lf.mk)
        all_goals (dsimp only; omega)
    all_goals
      have hm : m = 0 := by omega
      subst hm
      rw [List.drop_zero] at g3 g4
      first | rw [g3 (by assumption)] | rw [fcR_bad (g4 (by assumption))]


theorem ok_spec_faFrom : GSpec Tryd.prog s_spec_faFrom := by
  refine fn_known tab_ok fol (((Known.nil.cons ok_spec_raInt (by kernel_rfl)).cons ok_spec_raDiv (by kernel_rfl)).cons ok_spec_raAdd (by kernel_rfl)) (by decide) Tryd.func50 ?_
  rintro ⟨(l : List Int), ⟨⟩⟩ ⟨hl, _⟩ ⟨h0, hn, _⟩
  have hl : l.length ≤ 9223372036854775807 := hl
  obtain ⟨N, hN⟩ : ∃ N, l.length = N + 1 := ⟨l.length - 1, by omega⟩
  have e0 : ((l.length : Int) - 1).toNat = N := by omega
  repeat' (first | with_reducible apply andAll_cons | with_reducible apply andAll_nil | (with_reducible apply Cf.mk; kernel_rfl) | apply And.intro | intro _ | exact True.intro | apply Lf.mk)
  all_goals (try simp only [Bool.not_eq_true', Bool.not_eq_false', Bool.not_not, decide_eq_true_eq, decide_eq_false_iff_not, beq_iff_eq, bne_iff_ne, beq_eq_false_iff_ne, bne_eq_false_iff_eq, ne_eq, Bool.and_eq_true, Bool.and_eq_false_iff, Bool.or_eq_true, Bool.or_eq_false_iff, Int.toNat_natCast, Nat.zero_add, Int.ofNat_lt, Int.ofNat_le, List.length_cons, List.length_nil, List.drop_zero, List.take_length] at *)
  all_goals first | omega | skip
  refine ⟨Nat × Rt, fun x => ⟨[(5, .sc (.num .i64 ((x.1 : Int) - 1)))], [100000, 2], [(4, .box 24 [.num .i64 x.2.num, .num .i64 x.2.den])]⟩,
    fun x => x.1 < l.length ∧ okRt x.2 = true ∧ fcR (l.drop x.1) = (x.2, true), fun x => x.1,
    ⟨(N, ⟨getA NI.dflt l N, 1⟩), ?_, ?_⟩, ?_⟩
  · have hx := numsOk_get hn N (by omega)
    refine ⟨by dsimp only; omega, ok_good (good_whole hx), ?_⟩
    dsimp only
    rw [drop_get NI.dflt l N (by omega), List.drop_eq_nil_of_le (by omega)]
    rfl
  · repeat' (first | apply And.intro | exact True.intro | exact Lf.mk (by with_reducible rfl) | apply Lf.mk)
    all_goals (first | omega | rw [e0])
  · rintro ⟨m, ⟨n, d⟩⟩ ⟨g1, g2, g3⟩
    dsimp only at g1 g2 g3
    have e1 : ((m : Int) - 1).toNat = m - 1 := by omega
    have hx := numsOk_get hn (m - 1) (by omega)
    have hd : 0 < m → l.drop (m - 1) = getA NI.dflt l (m - 1) :: l.drop m := by
      intro hm
      have := drop_get NI.dflt l (m - 1) (by omega)
      rwa [show m - 1 + 1 = m by omega] at this
    have hne : l.drop m ≠ [] := by intro h; have := congrArg List.length h; simp at this; omega
    have hb1 : 0 < m → (divRt ⟨1, 1⟩ ⟨n, d⟩).2 = false → fcR l = (⟨0, 0⟩, false) := by
      intro hm h
      apply fcR_bad
      have := fcR_drop_bad (l := l) (m := m - 1) (j := 0) (by omega) (by omega) (by rw [hd hm]; exact fcR_div hne g3 h)
      simpa using this
    have hb2 : 0 < m → (divRt ⟨1, 1⟩ ⟨n, d⟩).2 = true → (addRt ⟨getA NI.dflt l (m - 1), 1⟩ (divRt ⟨1, 1⟩ ⟨n, d⟩).1).2 = false → fcR l = (⟨0, 0⟩, false) := by
      intro hm h h2
      apply fcR_bad
      have := fcR_drop_bad (l := l) (m := m - 1) (j := 0) (by omega) (by omega) (by rw [hd hm, fcR_add hne g3 h]; exact h2)
      simpa using this
    repeat' (first | with_reducible apply andAll_cons | with_reducible apply andAll_nil | (with_reducible apply Cf.mk; kernel_rfl) | apply And.intro | intro _ | exact True.intro | apply Lf.mk)
    all_goals (try simp only [Bool.not_eq_true', Bool.not_eq_false', Bool.not_not, decide_eq_true_eq, decide_eq_false_iff_not, beq_iff_eq, bne_iff_ne, beq_eq_false_iff_ne, bne_eq_false_iff_eq, ne_eq, Bool.and_eq_true, Bool.and_eq_false_iff, Bool.or_eq_true, Bool.or_eq_false_iff, Int.toNat_natCast, Nat.zero_add, Int.ofNat_lt, Int.ofNat_le, List.length_cons, List.length_nil, List.drop_zero, List.take_length] at *)
    all_goals (try simp only [e1] at *)
    all_goals first | omega | assumption | exact ok_good good_one | exact ok_good (good_whole hx) | exact lowRt_ok | skip
    all_goals first | (rw [hb1 (by omega) (by assumption)]; done) | (rw [hb2 (by omega) (by assumption) (by assumption)]; done) | skip
    · rename_i h1 h2 h3
      have hm : 0 < m := by omega
      have ha := fcR_add (a := getA NI.dflt l (m - 1)) hne g3 h2
      refine ⟨(m - 1, (addRt ⟨getA NI.dflt l (m - 1), 1⟩ (divRt ⟨1, 1⟩ ⟨n, d⟩).1).1), ⟨by dsimp only; omega, lowRt_ok, ?_⟩, by dsimp only; omega, ?_⟩
      · dsimp only
        rw [hd hm, ha]
        exact pair_t (by assumption)
      · repeat' (first | apply And.intro | exact True.intro | exact Lf.mk (by with_reducible rfl) | apply Lf.mk)
        all_goals (dsimp only; omega)
    all_goals
      have hm : m = 0 := by omega
      subst hm
      rw [List.drop_zero] at g3
      rw [g3]
end Go.Vx
