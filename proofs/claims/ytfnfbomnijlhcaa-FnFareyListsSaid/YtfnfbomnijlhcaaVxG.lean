/- The simplest fraction between two others: the program's functions and the reference's. -/
import Derived.Test.YtfnfbomnijlhcaaVxE
import Derived.Test.YtfnfbomnijlhcaaVxU
namespace Go.Vx
open Go Go.Proofs
set_option maxRecDepth 100000
set_option linter.unusedSimpArgs false
set_option linter.unusedVariables false

noncomputable def unitsRt (a b : Rt) : Bool := unitRt a && (unitRt b && lessRt a b)
noncomputable def s_spec_faUnits : Sig := ⟨56, [.val .rat, .val .rat], [.val .bool], fun ((a : Rt), (b : Rt), _) => ⟨[], (unitsRt a b, ()), ()⟩⟩
theorem ok_spec_faUnits : GSpec Try.prog s_spec_faUnits := by
  refine fn_known tab_ok fol ((Known.nil.cons ok_spec_raUnit (by kernel_rfl)).cons ok_spec_raCmp (by kernel_rfl)) (by decide) Try.func56 ?_
  rintro ⟨⟨(n : Int), (d : Int)⟩, ⟨(m : Int), (e : Int)⟩, ⟨⟩⟩ hl _
  repeat' (first | with_reducible apply andAll_cons | with_reducible apply andAll_nil | (with_reducible apply Cf.mk; kernel_rfl) | apply And.intro | intro _ | exact True.intro | apply Lf.mk)
  all_goals first | exact (unitRt_iff.1 (by assumption)).1 | skip
  all_goals (try change @Eq Bool _ _)
  all_goals (simp_all [unitsRt, cmp_less])

theorem getA_find {α : Type} {p : Nat → Bool} {i n : Nat} (h : i < n) (h1 : ∀ j, j < i → p j = false) (h2 : p i = true) : (List.range n).find? p = some i := by
  rw [List.find?_eq_some_iff_getElem]
  refine ⟨h2, i, by simpa using h, by simp, fun j hj => ?_⟩
  simp [h1 j hj]
theorem getA_find_none {p : Nat → Bool} {n : Nat} (h1 : ∀ j, j < n → p j = false) : (List.range n).find? p = none := by
  rw [List.find?_eq_none]
  intro x hx
  simp at hx
  simp [h1 x hx]

noncomputable def sbRes (a b : Rt) : Rt × Bool := match sbFind a b with
  | some i => (⟨sbNum a ((i : Int) + 1), (i : Int) + 1⟩, true)
  | none => (⟨0, 0⟩, false)
noncomputable def s_impl_simplest : Sig := ⟨55, [.val .rat, .val .rat], [.val .rat, .val .bool], fun ((a : Rt), (b : Rt), _) => ⟨[unitRt a = true, unitRt b = true], ((sbRes a b).1, (sbRes a b).2, ()), ()⟩⟩

theorem sbRes_some {a b : Rt} {i : Nat} (h : i < 1000) (h1 : ∀ (j : Nat), j < i → sbOk a b ((j : Int) + 1) = false) (h2 : sbOk a b ((i : Int) + 1) = true) : sbRes a b = (⟨sbNum a ((i : Int) + 1), (i : Int) + 1⟩, true) ∧ sbFind a b = some i := by
  have : sbFind a b = some i := getA_find (α := Unit) h h1 h2
  unfold sbRes; rw [this]; exact ⟨rfl, rfl⟩
theorem sbRes_none {a b : Rt} (h1 : ∀ (j : Nat), j < 1000 → sbOk a b ((j : Int) + 1) = false) : sbRes a b = (⟨0, 0⟩, false) := by
  have : sbFind a b = none := getA_find_none (p := fun i => sbOk a b ((i : Int) + 1)) h1
  unfold sbRes; rw [this]

theorem ok_impl_simplest : GSpec Try.prog s_impl_simplest := by
  refine fn_known tab_ok fol ((Known.nil.cons ok_impl_floorDivide (by kernel_rfl)).cons ok_impl_less_ (by kernel_rfl)) (by decide) Try.func55 ?_
  rintro ⟨⟨(n : Int), (d : Int)⟩, ⟨(m : Int), (e : Int)⟩, ⟨⟩⟩ hl ⟨u1, u2, _⟩
  obtain ⟨ga, a0, a1⟩ := unitRt_iff.1 u1
  obtain ⟨gb, b0, b1⟩ := unitRt_iff.1 u2
  have pa := goodRt_iff.1 ga
  have pb := goodRt_iff.1 gb
  dsimp only at a0 a1 b0 b1 pa pb
  refine ⟨Nat, fun i => ⟨[(6, .sc (.num .i64 ((i : Int) + 1)))], [2, 3, 4], []⟩, fun i => i ≤ 1000 ∧ ∀ (j : Nat), j < i → sbOk ⟨n, d⟩ ⟨m, e⟩ ((j : Int) + 1) = false, fun i => 1000 - i, ⟨0, ⟨Nat.zero_le _, fun j hj => by omega⟩, ?_⟩, ?_⟩
  · repeat' (first | apply And.intro | exact True.intro | exact Lf.mk (by with_reducible rfl) | apply Lf.mk)
    all_goals rfl
  · rintro i ⟨g1, g2⟩
    have m1 : 0 ≤ n * ((i : Int) + 1) := Int.mul_nonneg a0 (by omega)
    have m2 : n * ((i : Int) + 1) ≤ ((i : Int) + 1) * d := by
      rw [Int.mul_comm n]; exact Int.mul_le_mul_of_nonneg_left a1 (by omega)
    have m3 : n * ((i : Int) + 1) / d ≤ (i : Int) + 1 := Int.ediv_le_of_le_mul (by omega) m2
    have m4 : 0 ≤ n * ((i : Int) + 1) / d := Int.ediv_nonneg m1 (by omega)
    have m5 := mul_bd (a := n) (b := (i : Int) + 1) (A := 1000000000) (B := 1001) (by omega) (by omega) (by omega) (by omega) (by omega)
    repeat' (first | with_reducible apply andAll_cons | with_reducible apply andAll_nil | (with_reducible apply Cf.mk; kernel_rfl) | apply And.intro | intro _ | exact True.intro | apply Lf.mk)
    all_goals (try simp only [Bool.not_eq_true', Bool.not_eq_false', Bool.not_not, decide_eq_true_eq, decide_eq_false_iff_not, beq_iff_eq, bne_iff_ne, beq_eq_false_iff_ne, bne_eq_false_iff_eq, ne_eq, Bool.and_eq_true, Bool.and_eq_false_iff, Bool.or_eq_true, Bool.or_eq_false_iff, Int.toNat_natCast, Nat.zero_add, Int.ofNat_lt, Int.ofNat_le, List.length_cons, List.length_nil, List.drop_zero, List.take_length] at *)
    all_goals first | omega | assumption | exact small_good gb | exact small_mk (by dsimp only; omega) | skip
    · rename_i h3 h4
      rw [(sbRes_some (a := ⟨n, d⟩) (b := ⟨m, e⟩) (i := i) (by omega) g2 h3).1]; rfl
    · rename_i h3 h4
      rw [(sbRes_some (a := ⟨n, d⟩) (b := ⟨m, e⟩) (i := i) (by omega) g2 h3).1]
    · rename_i h3 h4
      refine ⟨i + 1, ⟨by omega, fun j hj => ?_⟩, by omega, ?_⟩
      · rcases Nat.lt_or_eq_of_le (Nat.le_of_lt_succ hj) with h | rfl
        · exact g2 j h
        · exact h3
      · repeat' (first | apply And.intro | exact True.intro | exact Lf.mk (by with_reducible rfl) | apply Lf.mk)
        all_goals (rw [Int.natCast_add]; rfl)
    · rw [sbRes_none (fun j hj => g2 j (by omega))]
    · rw [sbRes_none (fun j hj => g2 j (by omega))]

noncomputable def sbtRes (a b : Rt) : Rt × Bool := match unitsRt a b with
  | true => sbRes a b
  | false => (⟨0, 0⟩, false)
noncomputable def s_impl_SimplestBetween : Sig := ⟨19, [.val .rat, .val .rat], [.val .rat, .val .bool], fun ((a : Rt), (b : Rt), _) => ⟨[], ((sbtRes a b).1, (sbtRes a b).2, ()), ()⟩⟩
noncomputable def s_spec_SimplestBetween : Sig := ⟨20, [.val .rat, .val .rat], [.val .rat, .val .bool], fun ((a : Rt), (b : Rt), _) => ⟨[], ((sbtRes a b).1, (sbtRes a b).2, ()), ()⟩⟩
theorem ok_impl_SimplestBetween : GSpec Try.prog s_impl_SimplestBetween := by
  refine fn_known tab_ok fol (((Known.nil.cons ok_impl_areUnits (by kernel_rfl)).cons ok_impl_less (by kernel_rfl)).cons ok_impl_simplest (by kernel_rfl)) (by decide) Try.func19 ?_
  rintro ⟨⟨(n : Int), (d : Int)⟩, ⟨(m : Int), (e : Int)⟩, ⟨⟩⟩ hl _
  cases h1 : unitRt ⟨n, d⟩ <;> cases h2 : unitRt ⟨m, e⟩
  rotate_right
  · have hr : unitsRt ⟨n, d⟩ ⟨m, e⟩ = lessRt ⟨n, d⟩ ⟨m, e⟩ := by simp [unitsRt, h1, h2]
    have g1 := (unitRt_iff.1 h1).1
    have g2 := (unitRt_iff.1 h2).1
    repeat' (first | with_reducible apply andAll_cons | with_reducible apply andAll_nil | (with_reducible apply Cf.mk; kernel_rfl) | apply And.intro | intro _ | exact True.intro | apply Lf.mk)
    all_goals (try simp only [Bool.not_eq_true', Bool.not_eq_false', Bool.not_not, decide_eq_true_eq, decide_eq_false_iff_not, beq_iff_eq, bne_iff_ne, beq_eq_false_iff_ne, bne_eq_false_iff_eq, ne_eq, Bool.and_eq_true, Bool.and_eq_false_iff, Bool.or_eq_true, Bool.or_eq_false_iff, Int.toNat_natCast, Nat.zero_add, Int.ofNat_lt, Int.ofNat_le, List.length_cons, List.length_nil, List.drop_zero, List.take_length] at *)
    all_goals first | assumption | simp_all; done | skip
    all_goals (unfold sbtRes; simp_all)
  all_goals
    have hr : unitsRt ⟨n, d⟩ ⟨m, e⟩ = false := by simp [unitsRt, h1, h2]
    repeat' (first | with_reducible apply andAll_cons | with_reducible apply andAll_nil | (with_reducible apply Cf.mk; kernel_rfl) | apply And.intro | intro _ | exact True.intro | apply Lf.mk)
    all_goals first | assumption | omega | simp_all; done | skip
    all_goals (unfold sbtRes; simp_all)

theorem ok_spec_SimplestBetween : GSpec Try.prog s_spec_SimplestBetween := by
  refine fn_known tab_ok fol ((Known.nil.cons ok_spec_faUnits (by kernel_rfl)).cons ok_spec_raMake (by kernel_rfl)) (by decide) Try.func20 ?_
  rintro ⟨⟨(n : Int), (d : Int)⟩, ⟨(m : Int), (e : Int)⟩, ⟨⟩⟩ hl _
  cases hr : unitsRt ⟨n, d⟩ ⟨m, e⟩
  · repeat' (first | with_reducible apply andAll_cons | with_reducible apply andAll_nil | (with_reducible apply Cf.mk; kernel_rfl) | apply And.intro | intro _ | exact True.intro | apply Lf.mk)
    all_goals first | simp_all; done | skip
    all_goals (unfold sbtRes; simp_all)
  · have hu := hr
    simp only [unitsRt, Bool.and_eq_true] at hu
    obtain ⟨u1, u2, _⟩ := hu
    obtain ⟨ga, a0, a1⟩ := unitRt_iff.1 u1
    obtain ⟨gb, b0, b1⟩ := unitRt_iff.1 u2
    have pa := goodRt_iff.1 ga
    have pb := goodRt_iff.1 gb
    dsimp only at a0 a1 b0 b1 pa pb
    have hres : sbtRes ⟨n, d⟩ ⟨m, e⟩ = sbRes ⟨n, d⟩ ⟨m, e⟩ := by unfold sbtRes; rw [hr]
    repeat' (first | with_reducible apply andAll_cons | with_reducible apply andAll_nil | (with_reducible apply Cf.mk; kernel_rfl) | apply And.intro | intro _ | exact True.intro | apply Lf.mk)
    · simp_all
    · simp_all
    · refine ⟨Nat, fun i => ⟨[(6, .sc (.num .i64 ((i : Int) + 1)))], [2, 3, 4], []⟩, fun i => i ≤ 1000 ∧ ∀ (j : Nat), j < i → sbOk ⟨n, d⟩ ⟨m, e⟩ ((j : Int) + 1) = false, fun i => 1000 - i, ⟨0, ⟨Nat.zero_le _, fun j hj => by omega⟩, ?_⟩, ?_⟩
      · repeat' (first | apply And.intro | exact True.intro | exact Lf.mk (by with_reducible rfl) | apply Lf.mk)
        all_goals rfl
      · rintro i ⟨g1, g2⟩
        have m1 : 0 ≤ n * ((i : Int) + 1) := Int.mul_nonneg a0 (by omega)
        have m2 : n * ((i : Int) + 1) ≤ ((i : Int) + 1) * d := by
          rw [Int.mul_comm n]; exact Int.mul_le_mul_of_nonneg_left a1 (by omega)
        have m3 : n * ((i : Int) + 1) / d ≤ (i : Int) + 1 := Int.ediv_le_of_le_mul (by omega) m2
        have m4 : 0 ≤ n * ((i : Int) + 1) / d := Int.ediv_nonneg m1 (by omega)
        have m5 := mul_bd (a := n) (b := (i : Int) + 1) (A := 1000000000) (B := 1001) (by omega) (by omega) (by omega) (by omega) (by omega)
        have m6 : (n * ((i : Int) + 1)).tdiv d = n * ((i : Int) + 1) / d := Int.tdiv_eq_ediv_of_nonneg m1
        have m7 := mul_bd (a := n * ((i : Int) + 1) / d + 1) (b := e) (A := 1002) (B := 1000000000) (by omega) (by omega) (by omega) (by omega) (by omega)
        have m8 := mul_bd (a := m) (b := (i : Int) + 1) (A := 1000000000) (B := 1001) (by omega) (by omega) (by omega) (by omega) (by omega)
        repeat' (first | with_reducible apply andAll_cons | with_reducible apply andAll_nil | (with_reducible apply Cf.mk; kernel_rfl) | apply And.intro | intro _ | exact True.intro | apply Lf.mk)
        all_goals simp only [m6] at *
        all_goals (try simp only [Bool.not_eq_true', Bool.not_eq_false', Bool.not_not, decide_eq_true_eq, decide_eq_false_iff_not, beq_iff_eq, bne_iff_ne, beq_eq_false_iff_ne, bne_eq_false_iff_eq, ne_eq, Bool.and_eq_true, Bool.and_eq_false_iff, Bool.or_eq_true, Bool.or_eq_false_iff, Int.toNat_natCast, Nat.zero_add, Int.ofNat_lt, Int.ofNat_le, List.length_cons, List.length_nil, List.drop_zero, List.take_length] at *)
        all_goals first | omega | assumption | skip
        · rename_i h3 h4
          obtain ⟨e1, e2⟩ := sbRes_some (a := ⟨n, d⟩) (b := ⟨m, e⟩) (i := i) (by omega) g2 (decide_eq_true h4)
          rw [hres, e1]
          exact congrArg Prod.fst (lowRt_good (sb_good u1 u2 e2))
        · rename_i h3 h4
          obtain ⟨e1, e2⟩ := sbRes_some (a := ⟨n, d⟩) (b := ⟨m, e⟩) (i := i) (by omega) g2 (decide_eq_true h4)
          rw [hres, e1]
          exact congrArg Prod.snd (lowRt_good (sb_good u1 u2 e2))
        · rename_i h3 h4
          refine ⟨i + 1, ⟨by omega, fun j hj => ?_⟩, by omega, ?_⟩
          · rcases Nat.lt_or_eq_of_le (Nat.le_of_lt_succ hj) with h | rfl
            · exact g2 j h
            · exact decide_eq_false h4
          · repeat' (first | apply And.intro | exact True.intro | exact Lf.mk (by with_reducible rfl) | apply Lf.mk)
            all_goals (rw [Int.natCast_add]; rfl)
        · rw [hres, sbRes_none (fun j hj => g2 j (by omega))]
        · rw [hres, sbRes_none (fun j hj => g2 j (by omega))]
end Go.Vx
