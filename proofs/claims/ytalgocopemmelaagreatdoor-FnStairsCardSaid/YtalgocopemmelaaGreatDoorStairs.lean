/- For all arguments the law FnStairs returns true; there are no further conditions. -/
import Derived.Test.YtalgocopemmelaaGreatDoorVxS
import Derived.Test.YtalgocopemmelaaGreatDoorVpRat
import Derived.Test.YtalgocopemmelaaGreatDoorVxF
import Derived.Test.YtalgocopemmelaaGreatDoorVxU
import Derived.Test.YtalgocopemmelaaGreatDoorVxL
import Derived.Test.YtalgocopemmelaaGreatDoorVxXa
import Derived.Test.YtalgocopemmelaaGreatDoorVxRow
import Derived.Test.YtalgocopemmelaaGreatDoorVxSt
import Derived.Test.YtalgocopemmelaaGreatDoorVxLf
import Derived.Test.YtalgocopemmelaaGreatDoorVxXe
import Derived.Test.YtalgocopemmelaaGreatDoorVxJn
import Derived.Test.YtalgocopemmelaaGreatDoorCards
import Derived.Test.YtalgocopemmelaaGreatDoorTie
import Derived.ProofKit
import Derived.OpenShut
import Derived.Deep.DeepHandedRow
import Derived.Lib.LaidTab
namespace Go.Vx
open Go Go.Proofs
set_option maxRecDepth 100000
set_option linter.unusedSimpArgs false
set_option linter.unusedVariables false

theorem sum_set : ∀ (l : List Int) (i : Nat) (x : Int), i < l.length → (l.set i x).sum = l.sum + x - getA (0 : Int) l i
  | a :: r, 0, x, _ => by
    simp only [List.set_cons_zero, List.sum_cons, getA_eq, List.getD_cons_zero]; omega
  | a :: r, i + 1, x, h => by
    have ih := sum_set r i x (by simpa using h)
    have e : getA (0 : Int) (a :: r) (i + 1) = getA (0 : Int) r i := by simp [getA_eq]
    rw [e]
    simp only [List.set_cons_succ, List.sum_cons, ih]; omega
def StJ (l : List Rt) (i : Nat) (s : List Rt × List Int) : Prop :=
  s.2.sum = (i : Int) ∧ (∀ j, j + 1 < s.1.length → getA zR s.1 j ≠ getA zR s.1 (j + 1)) ∧ (sortF zR cmpRt l = true → (∀ x ∈ l, goodRt x = true) → ∀ j, j + 1 < s.1.length → (getA zR s.1 j).num * (getA zR s.1 (j + 1)).den < (getA zR s.1 (j + 1)).num * (getA zR s.1 j).den)
theorem get_app_l {α : Type} (d : α) (l m : List α) (i : Nat) (h : i < l.length) : getA d (l ++ m) i = getA d l i := by
  simp only [getA_eq, List.getD_eq_getElem?_getD, List.getElem?_append_left h]
theorem stJ_step {l : List Rt} {i : Nat} {s : List Rt × List Int} (hi : i < l.length) (h : StI l i s) (g : StJ l i s) : StJ l (i + 1) (stF s (getA zR l i)) := by
  obtain ⟨h1, h2, h3, h4⟩ := h
  obtain ⟨g1, g2, g3⟩ := g
  unfold stF
  split
  · rename_i h5
    refine ⟨?_, g2, g3⟩
    dsimp only
    rw [sum_set _ _ _ (by omega), g1]; omega
  · rename_i h5
    have key : ∀ (P : Rt → Rt → Prop), (∀ j, j + 1 < s.1.length → P (getA zR s.1 j) (getA zR s.1 (j + 1))) → (0 < s.1.length → P (getA zR s.1 (s.1.length - 1)) (getA zR l i)) → ∀ j, j + 1 < (s.1 ++ [getA zR l i]).length → P (getA zR (s.1 ++ [getA zR l i]) j) (getA zR (s.1 ++ [getA zR l i]) (j + 1)) := by
      intro P p1 p2 j hj
      rw [List.length_append, List.length_singleton] at hj
      rw [get_app_l _ _ _ _ (by omega)]
      by_cases h6 : j + 1 < s.1.length
      · rw [get_app_l _ _ _ _ h6]; exact p1 j h6
      · have e : j + 1 = s.1.length := by omega
        rw [e, getA_app_last]
        have e2 : j = s.1.length - 1 := by omega
        rw [e2]; exact p2 (by omega)
    refine ⟨?_, key (fun a b => a ≠ b) g2 (fun h6 h7 => h5 ⟨h6, h7⟩), fun q1 q2 => key (fun a b => a.num * b.den < b.num * a.den) (g3 q1 q2) (fun h6 => ?_)⟩
    · dsimp only
      rw [List.sum_append, g1]; simp
    · have hp : 0 < i := by omega
      obtain ⟨h7, h8⟩ := h3 hp
      rw [h8]
      have h9 : getA zR l (i - 1) ≠ getA zR l i := fun h => h5 ⟨h6, h8.trans h⟩
      have h10 := sortF_iff.1 q1 (i - 1) (by omega)
      rw [show i - 1 + 1 = i by omega, cmpRt_neg] at h10
      have h11 : ¬ (getA zR l (i - 1)).num * (getA zR l i).den = (getA zR l i).num * (getA zR l (i - 1)).den := fun h => h9 (good_eq (q2 _ (getA_mem _ (by omega))) (q2 _ (getA_mem _ hi)) h)
      omega
theorem stL_J (l : List Rt) : ∀ (i : Nat), i ≤ l.length → StJ l i (stL l i)
  | 0, _ => ⟨rfl, fun j h => by exact absurd h (Nat.not_lt_zero _), fun _ _ j h => by exact absurd h (Nat.not_lt_zero _)⟩
  | i + 1, h => by rw [stL_succ (by omega)]; exact stJ_step (by omega) (stL_inv l i (by omega)) (stL_J l i (by omega))

/-- what is known of the steps of a stair -/
structure Steps (l s : List Rt) (c : List Int) (w : Rt) (m : Int) (b : Nat) : Prop where
  len : s.length = c.length
  len2 : s.length ≤ 21
  sum : c.sum = (l.length : Int)
  ne : ∀ j, j + 1 < s.length → getA zR s j ≠ getA zR s (j + 1)
  lt : sortF zR cmpRt l = true → ∀ j, j + 1 < s.length → (getA zR s j).num * (getA zR s (j + 1)).den < (getA zR s (j + 1)).num * (getA zR s j).den
  gd : ∀ x ∈ s, goodRt x = true
  blt : b < s.length
  bw : getA zR s b = w
  bm : getA (0 : Int) c b = m
  le : ∀ j, j < s.length → getA (0 : Int) c j ≤ m
  bd : ∀ x ∈ c, 1 ≤ x ∧ x ≤ 21
theorem stF_good {s : List Rt × List Int} {x : Rt} (h : ∀ y ∈ s.1, goodRt y = true) (hx : goodRt x = true) : ∀ y ∈ (stF s x).1, goodRt y = true := by
  unfold stF
  split
  · exact h
  · intro y hy
    rcases List.mem_append.1 hy with h1 | h1
    · exact h y h1
    · rw [List.mem_singleton.1 h1]; exact hx
theorem stL_good {l : List Rt} (h : ∀ x ∈ l, goodRt x = true) : ∀ (i : Nat), i ≤ l.length → ∀ y ∈ (stL l i).1, goodRt y = true
  | 0, _ => fun y hy => by cases hy
  | i + 1, hi => by rw [stL_succ (by omega)]; exact stF_good (stL_good h i (by omega)) (h _ (getA_mem _ (by omega)))
theorem steps_of {l : List Rt} (h : stairOk l = true) : ∃ b, Steps l (ssRes l).1 (ssRes l).2.1 (wsRes l).1 (wsRes l).2.1 b := by
  have h1 := stair_len h
  obtain ⟨i1, i2, i3, i4⟩ := stL_inv l l.length (Nat.le_refl _)
  obtain ⟨j1, j2, j3⟩ := stL_J l l.length (Nat.le_refl _)
  have i5 := (i3 (by omega)).1
  obtain ⟨b1, b2, b3⟩ := bestF_spec (stL l l.length).2 (stL l l.length).2.length (by omega) (Nat.le_refl _)
  refine ⟨bestF (stL l l.length).2 (stL l l.length).2.length, ?_⟩
  rw [ss_t h, ws_t h]
  exact ⟨i1, by dsimp only; omega, j1, j2, fun h2 => j3 h2 (stair_all h), stL_good (stair_all h) _ (Nat.le_refl _), by dsimp only; omega, rfl, rfl, fun j hj => b2 j (by dsimp only at hj; omega), fun x hx => by have := i4 x hx; omega⟩

/-! merging -/
theorem grR_comm {a b : Rt} (ha : goodRt a = true) (hb : goodRt b = true) : grR b a = grR a b := by
  unfold grR
  split
  · rename_i h; rw [if_neg (by omega)]
  · rename_i h
    split
    · rfl
    · rename_i h2; exact good_eq hb ha (by omega)
theorem grR_idem (a b : Rt) : grR (grR a b) a = grR a b := by
  have e : ∀ x y : Rt, grR x y = if x.num * y.den < y.num * x.den then y else x := fun x y => by unfold grR; rfl
  rw [e a b]
  split
  · rename_i h; rw [e, if_neg (by omega)]
  · rw [e, if_neg (Int.lt_irrefl _)]
theorem grR_or (a b : Rt) : grR a b = a ∨ grR a b = b := by
  unfold grR; split
  · exact .inr rfl
  · exact .inl rfl
theorem mergeR_get {a b : List Rt} {n i : Nat} (h : i < n) : getA zR (mergeR a b n) i = grR (getA zR a i) (getA zR b i) := by
  rw [getA_lt _ _ _ (by rw [mergeR_length]; exact h)]; simp [mergeR]
theorem mg_comm {a b : List Rt} (h : (msRes a b).2 = true) : msRes b a = msRes a b ∧ stairOk a = true ∧ stairOk b = true ∧ a.length = b.length := by
  have h1 : msOk a b = true := by
    cases h2 : msOk a b with
    | true => rfl
    | false => unfold msRes at h; rw [h2] at h; cases h
  unfold msOk at h1
  rw [Bool.and_eq_true, Bool.and_eq_true, decide_eq_true_eq] at h1
  obtain ⟨ha, hb, hl⟩ := h1
  refine ⟨?_, ha, hb, hl⟩
  rw [ms_t ha hb hl, ms_t hb ha hl.symm, ← hl]
  congr 1
  unfold mergeR
  refine List.map_congr_left fun k hk => ?_
  have hk := List.mem_range.1 hk
  exact grR_comm (stair_all ha _ (getA_mem _ hk)) (stair_all hb _ (getA_mem _ (by omega)))
theorem mg_ok {a b : List Rt} (ha : stairOk a = true) (hb : stairOk b = true) (hl : a.length = b.length) : stairOk (mergeR a b a.length) = true := by
  have h1 : ∀ x ∈ mergeR a b a.length, goodRt x = true := by
    intro x hx
    unfold mergeR at hx
    obtain ⟨k, hk, rfl⟩ := List.mem_map.1 hx
    have hk := List.mem_range.1 hk
    rcases grR_or (getA zR a k) (getA zR b k) with e | e
    · rw [e]; exact stair_all ha _ (getA_mem _ hk)
    · rw [e]; exact stair_all hb _ (getA_mem _ (by omega))
  have h2 := ha
  unfold stairOk at h2 ⊢
  rw [Bool.and_eq_true] at h2
  rw [mergeR_length, h2.1, List.all_eq_true.2 h1]; rfl
theorem mg_again {a b : List Rt} (h : (msRes a b).2 = true) : msRes (msRes a b).1 a = msRes a b := by
  obtain ⟨_, ha, hb, hl⟩ := mg_comm h
  rw [ms_t ha hb hl]
  dsimp only
  rw [ms_t (mg_ok ha hb hl) ha (mergeR_length _ _ _), mergeR_length]
  congr 1
  unfold mergeR
  refine List.map_congr_left fun k hk => ?_
  have hk := List.mem_range.1 hk
  have e := mergeR_get (a := a) (b := b) hk
  unfold mergeR at e
  rw [e, grR_idem]
theorem q_le {a b : Rt} (ha : goodRt a = true) (hb : goodRt b = true) : ¬ cmpRt b a < 0 ↔ qR a ≤ qR b := by
  rw [cmpRt_neg, q_lt hb ha]
  exact Rat.not_lt
theorem q_gr {a b : Rt} (ha : goodRt a = true) (hb : goodRt b = true) : (qR a ≤ qR (grR a b) ∧ qR b ≤ qR (grR a b)) := by
  unfold grR
  split
  · rename_i h; exact ⟨Rat.le_of_lt ((q_lt ha hb).1 h), Rat.le_refl⟩
  · rename_i h; exact ⟨Rat.le_refl, Rat.not_lt.1 (fun h2 => h ((q_lt ha hb).2 h2))⟩
theorem mg_sort {a b : List Rt} (h : (msRes a b).2 = true) (h1 : (srRes a).1 = true) (h2 : (srRes b).1 = true) : (srRes (msRes a b).1).1 = true := by
  obtain ⟨_, ha, hb, hl⟩ := mg_comm h
  rw [sr_t ha] at h1
  rw [sr_t hb] at h2
  rw [ms_t ha hb hl]
  dsimp only
  rw [sr_t (mg_ok ha hb hl)]
  dsimp only
  rw [sortF_iff]
  intro i hi
  rw [mergeR_length] at hi
  rw [mergeR_get hi, mergeR_get (by omega)]
  have a0 := stair_all ha _ (getA_mem zR (by omega : i < a.length))
  have a1 := stair_all ha _ (getA_mem zR hi)
  have b0 := stair_all hb _ (getA_mem zR (by omega : i < b.length))
  have b1 := stair_all hb _ (getA_mem zR (by omega : i + 1 < b.length))
  have g0 : goodRt (grR (getA zR a i) (getA zR b i)) = true := by
    rcases grR_or (getA zR a i) (getA zR b i) with e | e <;> rw [e] <;> assumption
  have g1 : goodRt (grR (getA zR a (i + 1)) (getA zR b (i + 1))) = true := by
    rcases grR_or (getA zR a (i + 1)) (getA zR b (i + 1)) with e | e <;> rw [e] <;> assumption
  rw [q_le g0 g1]
  have s1 := (q_le a0 a1).1 (sortF_iff.1 h1 i hi)
  have s2 := (q_le b0 b1).1 (sortF_iff.1 h2 i (by omega))
  have m1 := q_gr a1 b1
  rcases grR_or (getA zR a i) (getA zR b i) with e | e
  · rw [e]; exact Rat.le_trans s1 m1.1
  · rw [e]; exact Rat.le_trans s2 m1.2
theorem mg_sr {a b : List Rt} (h : (msRes a b).2 = true) : (srRes a).2 = true ∧ (srRes b).2 = true ∧ (srRes (msRes a b).1).2 = true := by
  obtain ⟨_, ha, hb, hl⟩ := mg_comm h
  rw [sr_t ha, sr_t hb, ms_t ha hb hl]
  dsimp only
  rw [sr_t (mg_ok ha hb hl)]
  exact ⟨rfl, rfl, rfl⟩
end Go.Vx
namespace Go.Vx
open Go Go.Proofs
set_option maxRecDepth 100000
set_option linter.unusedSimpArgs false
set_option linter.unusedVariables false

theorem rt_of_eq2 {a b : Rt} (h : eqRt a b = true) : a = b := of_decide_eq_true h
theorem pt_of_eq2 {a b : Pt} (h : eqPt a b = true) : a = b := of_decide_eq_true h
noncomputable def s_laws_big : Sig := ⟨4, [.val .raw, .val .raw], [.val .bool], fun ((a : Raw), (b : Raw), _) => ⟨[], (decide (1048576 < (a.bs.length : Int)) || decide (1048576 - (a.bs.length : Int) < (b.bs.length : Int)), ()), ()⟩⟩
theorem ok_laws_big : GSpec Tryz.prog s_laws_big := by
  refine fn_known tab_ok fol Known.nil (by decide) Tryz.func4 ?_
  rintro ⟨(a : Raw), (b : Raw), ⟨⟩⟩ hl _
  have l1 : a.bs.length ≤ 9223372036854775807 := a.hl
  have l2 : b.bs.length ≤ 9223372036854775807 := b.hl
  repeat' (first | with_reducible apply andAll_cons | with_reducible apply andAll_nil | (with_reducible apply Cf.mk; kernel_rfl) | apply And.intro | intro _ | exact True.intro | apply Lf.mk)
  all_goals (try simp only [Bool.not_eq_true', Bool.not_eq_false', Bool.not_not, decide_eq_true_eq, decide_eq_false_iff_not, beq_iff_eq, bne_iff_ne, beq_eq_false_iff_ne, bne_eq_false_iff_eq, ne_eq, Bool.and_eq_true, Bool.and_eq_false_iff, Bool.or_eq_true, Bool.or_eq_false_iff, Int.toNat_natCast, Nat.zero_add, Int.ofNat_lt, Int.ofNat_le, List.length_cons, List.length_nil, List.drop_zero, List.take_length] at *)
  all_goals first | omega | (simp_all; done) | (rename_i h; rw [decide_eq_false h, Bool.false_or]; done) | (rename_i h; rw [decide_eq_true h, Bool.true_or]; done) | trace_state
noncomputable def s_laws_pLess : Sig := ⟨17, [.val .rat, .val .rat], [.val .bool], fun ((a : Rt), (b : Rt), _) => ⟨[goodRt a = true, goodRt b = true], (decide (a.num * b.den < b.num * a.den), ()), ()⟩⟩
theorem ok_laws_pLess : GSpec Tryz.prog s_laws_pLess := by
  refine fn_known tab_ok fol Known.nil (by decide) Tryz.func17 ?_
  rintro ⟨⟨(n : Int), (d : Int)⟩, ⟨(m : Int), (e : Int)⟩, ⟨⟩⟩ hl ⟨h1, h2, _⟩
  have b1 := ratmul h1 h2
  have b2 := ratmul h2 h1
  dsimp only at b1 b2
  repeat' (first | with_reducible apply andAll_cons | with_reducible apply andAll_nil | (with_reducible apply Cf.mk; kernel_rfl) | apply And.intro | intro _ | exact True.intro | apply Lf.mk)
  all_goals first | omega | rfl | trace_state
noncomputable def s_laws_pSum : Sig := ⟨16, [.list NI], [.val NI], fun ((l : List Int), _) => ⟨[∀ x ∈ l, 0 ≤ x ∧ x ≤ 1000000, l.length ≤ 1000000], (l.sum, ()), ()⟩⟩
theorem sum_rng {l : List Int} (h : ∀ x ∈ l, 0 ≤ x ∧ x ≤ 1000000) : 0 ≤ l.sum ∧ l.sum ≤ 1000000 * l.length := by
  induction l with
  | nil => exact ⟨Int.le_refl _, Int.le_refl _⟩
  | cons a r ih =>
    have h1 := h a (by simp)
    have h2 := ih (fun x hx => h x (by simp [hx]))
    rw [List.sum_cons, List.length_cons]
    omega
@[irreducible] def sumT (l : List Int) (i : Nat) : Int := (l.take i).sum
theorem sumT_z (l : List Int) : sumT l 0 = 0 := by unfold sumT; simp
theorem sumT_all {l : List Int} {i : Nat} (h : l.length ≤ i) : sumT l i = l.sum := by unfold sumT; rw [List.take_of_length_le h]
theorem sumT_rng {l : List Int} (h1 : ∀ x ∈ l, 0 ≤ x ∧ x ≤ 1000000) (h2 : l.length ≤ 1000000) (i : Nat) : 0 ≤ sumT l i ∧ sumT l i ≤ 1000000000000 := by
  unfold sumT
  have h3 := sum_rng (l := l.take i) (fun x hx => h1 x (List.mem_of_mem_take hx))
  have h4 : (l.take i).length ≤ 1000000 := by rw [List.length_take]; omega
  omega
theorem sumT_s {l : List Int} {i : Nat} (h : i < l.length) : sumT l (i + 1) = sumT l i + getA NI.dflt l i := by
  unfold sumT
  rw [List.take_add_one, List.sum_append, List.getElem?_eq_getElem h, getA_lt _ _ _ h]
  simp
theorem getN {l : List Int} (h1 : ∀ x ∈ l, 0 ≤ x ∧ x ≤ 1000000) {i : Nat} (h : i < l.length) : 0 ≤ getA NI.dflt l i ∧ getA NI.dflt l i ≤ 1000000 := h1 _ (getA_mem _ h)
theorem ok_laws_pSum : GSpec Tryz.prog s_laws_pSum := by
  refine fn_known tab_ok fol Known.nil (by decide) Tryz.func16 ?_
  rintro ⟨(l : List Int), ⟨⟩⟩ ⟨hl, _⟩ ⟨h1, h2, _⟩
  have hl : l.length ≤ 9223372036854775807 := hl
  refine ⟨Nat, fun i => ⟨[(8, .sc (.num .i64 i)), (3, .sc (.num .i64 (sumT l i)))], [100000], []⟩, fun i => i ≤ l.length, fun i => l.length - i, ⟨0, Nat.zero_le _, ?_⟩, ?_⟩
  · repeat' (first | apply And.intro | exact True.intro | exact Lf.mk (by with_reducible rfl) | apply Lf.mk)
    all_goals first | rfl | exact (sumT_z l).symm | exact sumT_z l
  · intro i g1
    have h3 := sumT_rng h1 h2 i
    repeat' (first | with_reducible apply andAll_cons | with_reducible apply andAll_nil | (with_reducible apply Cf.mk; kernel_rfl) | apply And.intro | intro _ | exact True.intro | apply Lf.mk)
    all_goals (try simp only [Bool.not_eq_true', Bool.not_eq_false', Bool.not_not, decide_eq_true_eq, decide_eq_false_iff_not, beq_iff_eq, bne_iff_ne, beq_eq_false_iff_ne, bne_eq_false_iff_eq, ne_eq, Bool.and_eq_true, Bool.and_eq_false_iff, Bool.or_eq_true, Bool.or_eq_false_iff, Int.toNat_natCast, Nat.zero_add, Int.ofNat_lt, Int.ofNat_le, List.length_cons, List.length_nil, List.drop_zero, List.take_length] at *)
    all_goals first | omega | (have e := getN h1 (by assumption); exact Int.le_trans (Int.add_le_add h3.2 e.2) (by decide)) | (have e := getN h1 (by assumption); exact Int.le_trans (by decide) (Int.add_nonneg h3.1 e.1)) | skip
    · refine ⟨i + 1, by omega, by omega, ?_⟩
      repeat' (first | apply And.intro | exact True.intro | exact Lf.mk (by with_reducible rfl) | apply Lf.mk)
      · rw [Int.natCast_add]; rfl
      · exact (sumT_s (by assumption)).symm
    · exact sumT_all (by omega)
noncomputable def s_laws_pSameRats : Sig := ⟨14, [.list .rat, .list .rat], [.val .bool], fun ((a : List Rt), (b : List Rt), _) => ⟨[], (decide (a = b), ()), ()⟩⟩
theorem ok_laws_pSameRats : GSpec Tryz.prog s_laws_pSameRats := by
  refine fn_known tab_ok fol Known.nil (by decide) Tryz.func14 ?_
  rintro ⟨(a : List Rt), (b : List Rt), ⟨⟩⟩ ⟨hl, hl', _⟩ _
  have hl : a.length ≤ 9223372036854775807 := hl
  repeat' (first | with_reducible apply andAll_cons | with_reducible apply andAll_nil | (with_reducible apply Cf.mk; kernel_rfl) | apply And.intro | intro _ | exact True.intro | apply Lf.mk)
  all_goals (try simp only [Bool.not_eq_true', Bool.not_eq_false', Bool.not_not, decide_eq_true_eq, decide_eq_false_iff_not, beq_iff_eq, bne_iff_ne, beq_eq_false_iff_ne, bne_eq_false_iff_eq, ne_eq, Bool.and_eq_true, Bool.and_eq_false_iff, Bool.or_eq_true, Bool.or_eq_false_iff, Int.toNat_natCast, Nat.zero_add, Int.ofNat_lt, Int.ofNat_le, List.length_cons, List.length_nil, List.drop_zero, List.take_length] at *)
  · rename_i h; change false = decide (a = b); symm; rw [decide_eq_false_iff_not]; intro h2; apply h; rw [h2]
  · rename_i h
    have h : a.length = b.length := by omega
    refine ⟨Nat, fun i => ⟨[(13, .sc (.num .i64 i))], [100000, 100001], []⟩, fun i => i ≤ a.length ∧ a.take i = b.take i, fun i => a.length - i, ⟨0, ?_, ?_⟩, ?_⟩
    · exact ⟨Nat.zero_le _, rfl⟩
    · repeat' (first | apply And.intro | exact True.intro | exact Lf.mk (by with_reducible rfl) | apply Lf.mk)
      all_goals rfl
    · rintro i ⟨g1, g2⟩
      repeat' (first | with_reducible apply andAll_cons | with_reducible apply andAll_nil | (with_reducible apply Cf.mk; kernel_rfl) | apply And.intro | intro _ | exact True.intro | apply Lf.mk)
      all_goals (try simp only [Bool.not_eq_true', Bool.not_eq_false', Bool.not_not, decide_eq_true_eq, decide_eq_false_iff_not, beq_iff_eq, bne_iff_ne, beq_eq_false_iff_ne, bne_eq_false_iff_eq, ne_eq, Bool.and_eq_true, Bool.and_eq_false_iff, Bool.or_eq_true, Bool.or_eq_false_iff, Int.toNat_natCast, Nat.zero_add, Int.ofNat_lt, Int.ofNat_le, List.length_cons, List.length_nil, List.drop_zero, List.take_length] at *)
      all_goals first | omega | skip
      · rename_i h3 h4; change false = decide (a = b); symm; rw [decide_eq_false_iff_not]; intro h2; rw [h2] at h4; simp [eqRt] at h4
      · rename_i h3 h4
        refine ⟨i + 1, ⟨by omega, take_eq_succ VK.rat.dflt a b i h3 (by omega) g2 (rt_of_eq2 (by simpa using h4))⟩, by omega, ?_⟩
        repeat' (first | apply And.intro | exact True.intro | exact Lf.mk (by with_reducible rfl) | apply Lf.mk)
        all_goals rfl
      · rename_i h3; change true = decide (a = b); symm; rw [decide_eq_true_eq]; exact eq_of_take h h3 g2
noncomputable def s_laws_sameInts : Sig := ⟨15, [.list NI, .list NI], [.val .bool], fun ((a : List Int), (b : List Int), _) => ⟨[], (decide (a = b), ()), ()⟩⟩
theorem ok_laws_sameInts : GSpec Tryz.prog s_laws_sameInts := by
  refine fn_known tab_ok fol Known.nil (by decide) Tryz.func15 ?_
  rintro ⟨(a : List Int), (b : List Int), ⟨⟩⟩ ⟨hl, hl', _⟩ _
  have hl : a.length ≤ 9223372036854775807 := hl
  repeat' (first | with_reducible apply andAll_cons | with_reducible apply andAll_nil | (with_reducible apply Cf.mk; kernel_rfl) | apply And.intro | intro _ | exact True.intro | apply Lf.mk)
  all_goals (try simp only [Bool.not_eq_true', Bool.not_eq_false', Bool.not_not, decide_eq_true_eq, decide_eq_false_iff_not, beq_iff_eq, bne_iff_ne, beq_eq_false_iff_ne, bne_eq_false_iff_eq, ne_eq, Bool.and_eq_true, Bool.and_eq_false_iff, Bool.or_eq_true, Bool.or_eq_false_iff, Int.toNat_natCast, Nat.zero_add, Int.ofNat_lt, Int.ofNat_le, List.length_cons, List.length_nil, List.drop_zero, List.take_length] at *)
  · rename_i h; change false = decide (a = b); symm; rw [decide_eq_false_iff_not]; intro h2; apply h; rw [h2]
  · rename_i h
    have h : a.length = b.length := by omega
    refine ⟨Nat, fun i => ⟨[(13, .sc (.num .i64 i))], [100000, 100001], []⟩, fun i => i ≤ a.length ∧ a.take i = b.take i, fun i => a.length - i, ⟨0, ?_, ?_⟩, ?_⟩
    · exact ⟨Nat.zero_le _, rfl⟩
    · repeat' (first | apply And.intro | exact True.intro | exact Lf.mk (by with_reducible rfl) | apply Lf.mk)
      all_goals rfl
    · rintro i ⟨g1, g2⟩
      repeat' (first | with_reducible apply andAll_cons | with_reducible apply andAll_nil | (with_reducible apply Cf.mk; kernel_rfl) | apply And.intro | intro _ | exact True.intro | apply Lf.mk)
      all_goals (try simp only [Bool.not_eq_true', Bool.not_eq_false', Bool.not_not, decide_eq_true_eq, decide_eq_false_iff_not, beq_iff_eq, bne_iff_ne, beq_eq_false_iff_ne, bne_eq_false_iff_eq, ne_eq, Bool.and_eq_true, Bool.and_eq_false_iff, Bool.or_eq_true, Bool.or_eq_false_iff, Int.toNat_natCast, Nat.zero_add, Int.ofNat_lt, Int.ofNat_le, List.length_cons, List.length_nil, List.drop_zero, List.take_length] at *)
      all_goals first | omega | skip
      · rename_i h3 h4; change false = decide (a = b); symm; rw [decide_eq_false_iff_not]; intro h2; rw [h2] at h4; simp at h4
      · rename_i h3 h4
        refine ⟨i + 1, ⟨by omega, take_eq_succ NI.dflt a b i h3 (by omega) g2 (by simpa using h4)⟩, by omega, ?_⟩
        repeat' (first | apply And.intro | exact True.intro | exact Lf.mk (by with_reducible rfl) | apply Lf.mk)
        all_goals rfl
      · rename_i h3; change true = decide (a = b); symm; rw [decide_eq_true_eq]; exact eq_of_take h h3 g2
noncomputable def s_laws_pSameMap : Sig := ⟨24, [.list .pt, .list .pt], [.val .bool], fun ((a : List Pt), (b : List Pt), _) => ⟨[], (decide (a = b), ()), ()⟩⟩
theorem ok_laws_pSameMap : GSpec Tryz.prog s_laws_pSameMap := by
  refine fn_known tab_ok fol Known.nil (by decide) Tryz.func24 ?_
  rintro ⟨(a : List Pt), (b : List Pt), ⟨⟩⟩ ⟨hl, hl', _⟩ _
  have hl : a.length ≤ 9223372036854775807 := hl
  repeat' (first | with_reducible apply andAll_cons | with_reducible apply andAll_nil | (with_reducible apply Cf.mk; kernel_rfl) | apply And.intro | intro _ | exact True.intro | apply Lf.mk)
  all_goals (try simp only [Bool.not_eq_true', Bool.not_eq_false', Bool.not_not, decide_eq_true_eq, decide_eq_false_iff_not, beq_iff_eq, bne_iff_ne, beq_eq_false_iff_ne, bne_eq_false_iff_eq, ne_eq, Bool.and_eq_true, Bool.and_eq_false_iff, Bool.or_eq_true, Bool.or_eq_false_iff, Int.toNat_natCast, Nat.zero_add, Int.ofNat_lt, Int.ofNat_le, List.length_cons, List.length_nil, List.drop_zero, List.take_length] at *)
  · rename_i h; change false = decide (a = b); symm; rw [decide_eq_false_iff_not]; intro h2; apply h; rw [h2]
  · rename_i h
    have h : a.length = b.length := by omega
    refine ⟨Nat, fun i => ⟨[(13, .sc (.num .i64 i))], [100000, 100001], []⟩, fun i => i ≤ a.length ∧ a.take i = b.take i, fun i => a.length - i, ⟨0, ?_, ?_⟩, ?_⟩
    · exact ⟨Nat.zero_le _, rfl⟩
    · repeat' (first | apply And.intro | exact True.intro | exact Lf.mk (by with_reducible rfl) | apply Lf.mk)
      all_goals rfl
    · rintro i ⟨g1, g2⟩
      repeat' (first | with_reducible apply andAll_cons | with_reducible apply andAll_nil | (with_reducible apply Cf.mk; kernel_rfl) | apply And.intro | intro _ | exact True.intro | apply Lf.mk)
      all_goals (try simp only [Bool.not_eq_true', Bool.not_eq_false', Bool.not_not, decide_eq_true_eq, decide_eq_false_iff_not, beq_iff_eq, bne_iff_ne, beq_eq_false_iff_ne, bne_eq_false_iff_eq, ne_eq, Bool.and_eq_true, Bool.and_eq_false_iff, Bool.or_eq_true, Bool.or_eq_false_iff, Int.toNat_natCast, Nat.zero_add, Int.ofNat_lt, Int.ofNat_le, List.length_cons, List.length_nil, List.drop_zero, List.take_length] at *)
      all_goals first | omega | skip
      · rename_i h3 h4; change false = decide (a = b); symm; rw [decide_eq_false_iff_not]; intro h2; rw [h2] at h4; simp [eqPt] at h4
      · rename_i h3 h4
        refine ⟨i + 1, ⟨by omega, take_eq_succ VK.pt.dflt a b i h3 (by omega) g2 (pt_of_eq2 (by simpa using h4))⟩, by omega, ?_⟩
        repeat' (first | apply And.intro | exact True.intro | exact Lf.mk (by with_reducible rfl) | apply Lf.mk)
        all_goals rfl
      · rename_i h3; change true = decide (a = b); symm; rw [decide_eq_true_eq]; exact eq_of_take h h3 g2
end Go.Vx
namespace Go.Vx
open Go Go.Proofs
set_option maxRecDepth 100000
set_option linter.unusedSimpArgs false
set_option linter.unusedVariables false

set_option maxHeartbeats 4000000 in
theorem ex_spec_DrawStepsOfStair : ∃ (V : Raw → List Rt), (∀ (r : Raw), ((V r).length ≤ 22)) ∧ GSpec Tryz.prog ⟨5, [.val .raw], [.list 30 .rat], fun ((r : Raw), _) => ⟨[], (V r, ()), ()⟩⟩ := by
  obtain ⟨V, O, h1, h3⟩ := fn_some (P := Tryz.prog) tab_ok fol (Known.nil.cons ok_cur_stair (by kernel_rfl)) (f := 5) (ks := [.val .raw]) (rs := [.list 30 .rat]) (by decide) Tryz.func5 (pre := fun y => match y with | ((r : Raw), _) => []) (Q := fun y R _ => match y, R with | ((r : Raw), _), ((v : List Rt), _) => v.length ≤ 22) (by
    rintro ⟨(r : Raw), ⟨⟩⟩ hl hpre
    have hz := cz_at r
    have h1 := stair_ok (hz.le (by decide))
    repeat' (first | with_reducible apply andAll_cons | with_reducible apply andAll_nil | (with_reducible apply Cf.mk; kernel_rfl) | apply And.intro | intro _ | exact True.intro | apply Lf.mk)
    all_goals (try dsimp only at *)
    all_goals (try simp only [cur_eta, rt_eta_, List.length_cons, List.length_nil, Nat.zero_add, Nat.reduceAdd, Int.cast_ofNat_Int] at *)
    all_goals (try simp only [Bool.not_eq_true', Bool.not_eq_false', Bool.not_not, decide_eq_true_eq, decide_eq_false_iff_not, beq_iff_eq, bne_iff_ne, beq_eq_false_iff_ne, bne_eq_false_iff_eq, ne_eq, Bool.and_eq_true, Bool.and_eq_false_iff, Bool.or_eq_true, Bool.or_eq_false_iff, Int.toNat_natCast, Nat.zero_add, Int.ofNat_lt, Int.ofNat_le, List.length_cons, List.length_nil, List.drop_zero, List.take_length] at *)
    all_goals first | ((try simp only [anyS_r, ratS_r, uniS_r, ordS_r, pickS_r, nextS_r, famzS_r, stairS_r]); (first | exact ⟨100000, rfl⟩ | exact rawIn_adv (by assumption) ⟨100000, rfl⟩)) | ((repeat (first | apply pick_at | apply any_at | apply uni_at | apply ord_at | apply rat_at | apply next_at | apply famz_at | apply stair_at)); exact AtOk.le (by assumption) (by first | decide | omega)) | omega | (show inI64 _; unfold inI64; omega) | (show 1 ≤ List.length _; simp; done) | (show _ * 32 ≤ 140737488355328; omega) | (show _ * 16 ≤ 140737488355328; omega) | with_reducible assumption | contradiction | exact unit_good_ (by assumption) | exact pk1 (by decide) (by decide) | exact pk2 (by decide) (by decide) | exact pk3 (by decide) (by decide) | exact pk4 (by decide) (by decide) | exact pk5 (by decide) (by decide) | skip
    all_goals (apply some_end (ks := [.val .raw]) (rs := [.list 30 .rat]) (_, ()) (); (case h => ((repeat' (first | apply And.intro | exact True.intro | exact Lf.mk (by with_reducible rfl) | apply Lf.mk | with_reducible exact Eq.refl _)); all_goals (first | rfl | omega | skip))); (case q => ((try dsimp only); (first | exact trivial | omega | (rw [List.length_set]; omega) | (rw [List.length_take]; omega) | (simp only [List.length_cons, List.length_nil]; omega) | (simp; done) | skip)))))
  exact ⟨fun r => (V (r, ())).1, fun r => h1 (r, ()) trivial trivial, h3⟩
@[irreducible] noncomputable def dssV : Raw → List Rt := Classical.choose ex_spec_DrawStepsOfStair
theorem dss_spec : (∀ (r : Raw), ((dssV r).length ≤ 22)) ∧ GSpec Tryz.prog ⟨5, [.val .raw], [.list 30 .rat], fun ((r : Raw), _) => ⟨[], (dssV r, ()), ()⟩⟩ := by
  unfold dssV
  exact (Classical.choose_spec ex_spec_DrawStepsOfStair)
theorem dss_ok {r : Raw} : (dssV r).length ≤ 22 := dss_spec.1 r
noncomputable def s_spec_DrawStepsOfStair : Sig := ⟨5, [.val .raw], [.list 30 .rat], fun ((r : Raw), _) => ⟨[], (dssV r, ()), ()⟩⟩
theorem ok_spec_DrawStepsOfStair : GSpec Tryz.prog s_spec_DrawStepsOfStair := dss_spec.2
set_option maxHeartbeats 4000000 in
theorem ex_spec_DrawMergeStairs : ∃ (V1 : Raw → List Rt) (V2 : Raw → List Rt), (∀ (r : Raw), ((V1 r).length ≤ 22 ∧ (V2 r).length ≤ 22)) ∧ GSpec Tryz.prog ⟨18, [.val .raw], [.list 30 .rat, .list 30 .rat], fun ((r : Raw), _) => ⟨[], (V1 r, V2 r, ()), ()⟩⟩ := by
  obtain ⟨V, O, h1, h3⟩ := fn_some (P := Tryz.prog) tab_ok fol ((Known.nil.cons ok_cur_stair (by kernel_rfl)).cons ok_cur_one (by kernel_rfl)) (f := 18) (ks := [.val .raw]) (rs := [.list 30 .rat, .list 30 .rat]) (by decide) Tryz.func18 (pre := fun y => match y with | ((r : Raw), _) => []) (Q := fun y R _ => match y, R with | ((r : Raw), _), ((v1 : List Rt), (v2 : List Rt), _) => v1.length ≤ 22 ∧ v2.length ≤ 22) (by
    rintro ⟨(r : Raw), ⟨⟩⟩ hl hpre
    have hz := cz_at r
    have h1 := stair_ok (hz.le (by decide))
    have h2 := stair_ok (c := stairS ⟨r, 0, 0⟩) (by ((repeat (first | apply pick_at | apply any_at | apply uni_at | apply ord_at | apply rat_at | apply next_at | apply famz_at | apply stair_at)); exact AtOk.le (by assumption) (by first | decide | omega)))
    repeat' (first | with_reducible apply andAll_cons | with_reducible apply andAll_nil | (with_reducible apply Cf.mk; kernel_rfl) | apply And.intro | intro _ | exact True.intro | apply Lf.mk)
    all_goals (try dsimp only at *)
    all_goals (try simp only [cur_eta, rt_eta_, List.length_cons, List.length_nil, Nat.zero_add, Nat.reduceAdd, Int.cast_ofNat_Int] at *)
    all_goals (try simp only [Bool.not_eq_true', Bool.not_eq_false', Bool.not_not, decide_eq_true_eq, decide_eq_false_iff_not, beq_iff_eq, bne_iff_ne, beq_eq_false_iff_ne, bne_eq_false_iff_eq, ne_eq, Bool.and_eq_true, Bool.and_eq_false_iff, Bool.or_eq_true, Bool.or_eq_false_iff, Int.toNat_natCast, Nat.zero_add, Int.ofNat_lt, Int.ofNat_le, List.length_cons, List.length_nil, List.drop_zero, List.take_length] at *)
    all_goals first | ((try simp only [anyS_r, ratS_r, uniS_r, ordS_r, pickS_r, nextS_r, famzS_r, stairS_r]); (first | exact ⟨100000, rfl⟩ | exact rawIn_adv (by assumption) ⟨100000, rfl⟩)) | ((repeat (first | apply pick_at | apply any_at | apply uni_at | apply ord_at | apply rat_at | apply next_at | apply famz_at | apply stair_at)); exact AtOk.le (by assumption) (by first | decide | omega)) | omega | (show inI64 _; unfold inI64; omega) | (show 1 ≤ List.length _; simp; done) | (show _ * 32 ≤ 140737488355328; omega) | (show _ * 16 ≤ 140737488355328; omega) | with_reducible assumption | contradiction | exact unit_good_ (by assumption) | exact pk1 (by decide) (by decide) | exact pk2 (by decide) (by decide) | exact pk3 (by decide) (by decide) | exact pk4 (by decide) (by decide) | exact pk5 (by decide) (by decide) | skip
    all_goals (apply some_end (ks := [.val .raw]) (rs := [.list 30 .rat, .list 30 .rat]) (_, _, ()) (); (case h => ((repeat' (first | apply And.intro | exact True.intro | exact Lf.mk (by with_reducible rfl) | apply Lf.mk | with_reducible exact Eq.refl _)); all_goals (first | rfl | omega | skip))); (case q => ((try dsimp only); (first | exact trivial | omega | (rw [List.length_set]; omega) | (rw [List.length_take]; omega) | (simp only [List.length_cons, List.length_nil]; omega) | (simp; done) | skip)))))
  exact ⟨fun r => (V (r, ())).1, fun r => (V (r, ())).2.1, fun r => h1 (r, ()) trivial trivial, h3⟩
@[irreducible] noncomputable def dmsV1 : Raw → List Rt := Classical.choose ex_spec_DrawMergeStairs
@[irreducible] noncomputable def dmsV2 : Raw → List Rt := Classical.choose (Classical.choose_spec ex_spec_DrawMergeStairs)
theorem dms_spec : (∀ (r : Raw), ((dmsV1 r).length ≤ 22 ∧ (dmsV2 r).length ≤ 22)) ∧ GSpec Tryz.prog ⟨18, [.val .raw], [.list 30 .rat, .list 30 .rat], fun ((r : Raw), _) => ⟨[], (dmsV1 r, dmsV2 r, ()), ()⟩⟩ := by
  unfold dmsV1 dmsV2
  exact (Classical.choose_spec (Classical.choose_spec ex_spec_DrawMergeStairs))
theorem dms_ok {r : Raw} : (dmsV1 r).length ≤ 22 ∧ (dmsV2 r).length ≤ 22 := dms_spec.1 r
noncomputable def s_spec_DrawMergeStairs : Sig := ⟨18, [.val .raw], [.list 30 .rat, .list 30 .rat], fun ((r : Raw), _) => ⟨[], (dmsV1 r, dmsV2 r, ()), ()⟩⟩
theorem ok_spec_DrawMergeStairs : GSpec Tryz.prog s_spec_DrawMergeStairs := dms_spec.2
end Go.Vx
namespace Go.Vx
open Go Go.Proofs
set_option maxRecDepth 100000
set_option linter.unusedSimpArgs false
set_option linter.unusedVariables false

noncomputable def s_laws_FnStairs : Sig := ⟨3, [.val .raw, .val .raw], [.val .bool], fun ((_ : Raw), (_ : Raw), _) => ⟨[], (true, ()), ()⟩⟩

theorem str_self4 (a : ByteArray) : (a.toList == a.toList) = true := by simp
theorem rt_eta4 (x : Rt) : (⟨x.num, x.den⟩ : Rt) = x := rfl
theorem eqRt_self4 (x : Rt) : eqRt x x = true := by simp [eqRt]
theorem ws_ok (l : List Rt) : (wsRes l).2.2 = (ssRes l).2.2 := by unfold wsRes ssRes; cases stairOk l <;> rfl
theorem sx_ok (l : List Rt) : (sxRes l).2 = (ssRes l).2.2 := by unfold sxRes ssRes; cases stairOk l <;> rfl
theorem sr_ok (l : List Rt) : (srRes l).2 = (ssRes l).2.2 := by unfold srRes ssRes; cases stairOk l <;> rfl
theorem ss_stair {l : List Rt} (h : (ssRes l).2.2 = true) : stairOk l = true := by
  cases h2 : stairOk l with
  | true => rfl
  | false => rw [ss_f h2] at h; cases h

set_option maxHeartbeats 40000000 in
theorem ok_laws_FnStairs : GSpec Tryz.prog s_laws_FnStairs := by
  refine fn_knownJ none tab_ok fol (((((((((((((((((((((Known.nil.cons ok_laws_big (by kernel_rfl)).cons ok_spec_DrawStepsOfStair (by kernel_rfl)).cons ok_impl_StepsOfStair (by kernel_rfl)).cons ok_spec_StepsOfStair (by kernel_rfl)).cons ok_impl_WidestStep (by kernel_rfl)).cons ok_spec_WidestStep (by kernel_rfl)).cons ok_impl_StaircaseText (by kernel_rfl)).cons ok_spec_StaircaseText (by kernel_rfl)).cons ok_impl_IsStaircase (by kernel_rfl)).cons ok_spec_IsStaircase (by kernel_rfl)).cons ok_laws_pSameRats (by kernel_rfl)).cons ok_laws_sameInts (by kernel_rfl)).cons ok_laws_pSum (by kernel_rfl)).cons ok_laws_pLess (by kernel_rfl)).cons ok_spec_DrawMergeStairs (by kernel_rfl)).cons ok_impl_MergeStairs (by kernel_rfl)).cons ok_spec_MergeStairs (by kernel_rfl)).cons ok_spec_DrawFamilyLift (by kernel_rfl)).cons ok_impl_FamilyLift (by kernel_rfl)).cons ok_spec_FamilyLift (by kernel_rfl)).cons ok_laws_pSameMap (by kernel_rfl)) (by decide) Tryz.func3 ?_
  rintro ⟨(r : Raw), (s : Raw), ⟨⟩⟩ hl _
  have e1 := ws_ok (dssV r)
  have e2 := sx_ok (dssV r)
  have e3 := sr_ok (dssV r)
  refine VJ.upto 12 ?_
  repeat' (first | with_reducible apply andAll_cons | with_reducible apply andAll_nil | (with_reducible apply Cf.mk; kernel_rfl) | apply And.intro | intro _ | exact True.intro | apply Lf.mk)
  all_goals first
    | with_reducible exact Eq.refl _ | exact ⟨100000, rfl⟩ | exact ⟨100001, rfl⟩
    | (show _ = true
       exfalso
       simp only [e1, e2, e3, rt_eta4, eqRt_self4, str_self4, beq_self_eq_true, bne_self_eq_false, decide_true, Bool.not_true, Bool.not_false, Bool.false_eq_true, Bool.true_eq_false, reduceCtorEq] at *
       done)
    | (show _ = true
       exfalso
       simp only [e1, e2, e3, rt_eta4, eqRt_self4, str_self4, beq_self_eq_true, bne_self_eq_false, decide_true, Bool.not_true, Bool.not_false, Bool.false_eq_true, Bool.true_eq_false, reduceCtorEq] at *
       simp_all
       done)
    | skip
  refine VJ.cut ⟨[], [], []⟩ ?_ ?_
  · have hst : (ssRes (dssV r)).2.2 = true → ∃ b, Steps (dssV r) (ssRes (dssV r)).1 (ssRes (dssV r)).2.1 (wsRes (dssV r)).1 (wsRes (dssV r)).2.1 b := fun h => steps_of (ss_stair h)
    generalize hS : (ssRes (dssV r)).1 = st at *
    generalize hC : (ssRes (dssV r)).2.1 = ct at *
    repeat' (first | with_reducible apply andAll_cons | with_reducible apply andAll_nil | (with_reducible apply Cf.mk; kernel_rfl) | apply And.intro | intro _ | exact True.intro | apply Lf.mk)
    all_goals first
      | with_reducible exact Eq.refl _
      | skip
    all_goals (try (obtain ⟨b, hb⟩ := hst (by assumption)))
    all_goals (try (have k1 := hb.len; have k2 := hb.len2; have k3 := hb.sum))
    all_goals first
      | omega
      | (have hbd := hb.bd _ (by assumption); omega)
      | (simp only [k1, k3, beq_self_eq_true, bne_self_eq_false, Bool.false_eq_true, Bool.true_eq_false, reduceCtorEq, ne_eq, not_true_eq_false] at *; done)
      | skip
    refine ⟨Nat × Bool, fun x => ⟨[(181, .sc (.num .i64 x.1)), (26, .sc (.bool x.2))], [200650, 200651, 15], []⟩, fun x => x.1 ≤ st.length ∧ (b < x.1 → x.2 = true), fun x => st.length - x.1, ?_, ?_⟩
    · apply start_go (0, false)
      · repeat' (first | apply And.intro | exact True.intro | exact Lf.mk (by with_reducible rfl) | apply Lf.mk)
        all_goals rfl
      · exact ⟨Nat.zero_le _, fun h => absurd h (Nat.not_lt_zero _)⟩
    · rintro ⟨i, f⟩ ⟨g1, g2⟩
      dsimp only at g1 g2
      have gd : ∀ j, j < st.length → goodRt (getA VK.rat.dflt st j) = true := fun j hj => hb.gd _ (getA_mem _ hj)
      have q1 : i < st.length → ¬ (wsRes (dssV r)).2.1 < getA NI.dflt ct i := fun hi => Int.not_lt.2 (hb.le i hi)
      have q2 : 0 < i → i < st.length → eqRt (getA VK.rat.dflt st i) (getA VK.rat.dflt st (i - 1)) = false := fun h0 hi => by
        have := hb.ne (i - 1) (by omega)
        rw [show i - 1 + 1 = i by omega] at this
        exact decide_eq_false (fun h => this h.symm)
      have q3 : 0 < i → i < st.length → (srRes (dssV r)).1 = true → decide ((getA VK.rat.dflt st (i - 1)).num * (getA VK.rat.dflt st i).den < (getA VK.rat.dflt st i).num * (getA VK.rat.dflt st (i - 1)).den) = true := fun h0 hi hr => by
        have hst := ss_stair (by assumption)
        have := hb.lt (by rw [sr_t hst] at hr; exact hr) (i - 1) (by omega)
        rw [show i - 1 + 1 = i by omega] at this
        exact decide_eq_true this
      have q4 : i = b → eqRt (getA VK.rat.dflt st i) (wsRes (dssV r)).1 = true ∧ getA NI.dflt ct i = (wsRes (dssV r)).2.1 := fun h => by subst h; exact ⟨decide_eq_true hb.bw, hb.bm⟩
      have q5 := hb.blt
      have e5 : ((i : Int) - 1).toNat = i - 1 := by omega
      repeat' (first | with_reducible apply andAll_cons | with_reducible apply andAll_nil | (with_reducible apply Cf.mk; kernel_rfl) | apply And.intro | intro _ | exact True.intro | apply Lf.mk)
      all_goals first
        | with_reducible exact Eq.refl _
        | skip
      all_goals (try simp only [rt_eta4, Int.toNat_natCast, e5] at *)
      all_goals first
        | exact absurd (by assumption : false = true) (by decide)
        | (have hi : ¬ i < st.length := by (simp only [decide_eq_false_iff_not] at *; omega)
           have z := g2 (by omega)
           exact absurd (by assumption : (!f) = true) (by rw [z]; decide))
        | (have hi : i < st.length := by (simp only [decide_eq_true_eq] at *; omega)
           first
             | exact gd _ hi | exact gd _ (by omega) | omega | (have h0 : 0 < i := (by (simp only [decide_eq_true_eq] at *; omega)); omega)
             | (show false = true
                exfalso
                by_cases h0 : 0 < i
                · have p1 := q1 hi
                  have p2 := q2 h0 hi
                  have p3 := q3 h0 hi
                  clear q1 q2 q3 q4 g2 hst
                  cases hr : (srRes (dssV r)).1
                  · simp_all
                  · have p3 := p3 hr
                    simp_all
                · have p1 := q1 hi
                  clear q1 q2 q3 q4 g2 hst
                  have h0 : i = 0 := by omega
                  subst h0
                  simp_all)
             | (apply round_go (i + 1, _)
                case hf =>
                  repeat' (first | apply And.intro | exact True.intro | exact Lf.mk (by with_reducible rfl) | apply Lf.mk)
                  all_goals first | rfl | (rw [Int.natCast_add]; rfl) | fail
                case hm => dsimp only; omega
                case h =>
                  dsimp only
                  refine ⟨by omega, fun hbi => ?_⟩
                  by_cases h9 : i = b
                  · obtain ⟨z1, z2⟩ := q4 h9
                    first
                      | with_reducible rfl | with_reducible assumption | exact beq_iff_eq.2 z2 | exact decide_eq_true z2
                      | exact absurd (z1.symm.trans (by assumption : eqRt (getA VK.rat.dflt st i) (wsRes (dssV r)).1 = false)) (by decide)
                      | (rw [z2]; simp; done)
                      | trace_state
                  · have z3 := g2 (by omega)
                    first
                      | with_reducible rfl | with_reducible assumption | with_reducible exact z3
                      | exact absurd (z3.symm.trans (by assumption : f = false)) (by decide)
                      | trace_state)
             | skip)
        | (simp only [decide_eq_true_eq] at *; omega)
        | skip
      all_goals trace_state
  · have m1 := fun h => mg_comm (a := dmsV1 s) (b := dmsV2 s) h
    have m2 := fun h => mg_again (a := dmsV1 s) (b := dmsV2 s) h
    have m3 := fun h => mg_sort (a := dmsV1 s) (b := dmsV2 s) h
    have m4 := fun h => mg_sr (a := dmsV1 s) (b := dmsV2 s) h
    refine VJ.of ?_
    repeat' (first | with_reducible apply andAll_cons | with_reducible apply andAll_nil | (with_reducible apply Cf.mk; kernel_rfl) | apply And.intro | intro _ | exact True.intro | apply Lf.mk)
    all_goals first
      | with_reducible exact Eq.refl _ | exact ⟨100000, rfl⟩ | exact ⟨100001, rfl⟩
      | (show _ = true
         simp only [eqRt_self4, beq_self_eq_true, bne_self_eq_false, decide_true, Bool.not_true, Bool.not_false, Bool.false_eq_true, Bool.true_eq_false, reduceCtorEq] at *
         done)
      | (show false = true
         exfalso
         have h7 : (msRes (dmsV1 s) (dmsV2 s)).2 = true := by assumption
         obtain ⟨f1, t1, t2, t3⟩ := m1 h7
         have f2 := m2 h7
         have f3 := m3 h7
         obtain ⟨f4, f5, f6⟩ := m4 h7
         clear m1 m2 m3 m4 e1 e2 e3
         first
           | (have f8 := f3 (by assumption) (by assumption)
              rename_i hh
              rw [f8] at hh
              exact absurd hh (by decide))
           | (rename_i hh
              first | rw [f1] at hh | skip
              first | rw [f2] at hh | skip
              first | rw [f4] at hh | rw [f5] at hh | rw [f6] at hh | rw [h7] at hh | skip
              first | exact absurd hh (by decide) | (simp at hh; done)))
      | skip
    all_goals trace_state
end Go.Vx
namespace Go.Proofs.YtalgocopemmelaaGreatDoor
open Go.Vx Go.ChangeShapes Go.WideShapes Go.ChangeAt Go.RowKit

theorem own : ownKnob Tryz.prog.godebug = none := by kernel_rfl
/-- the cells of a table -/
def cellsOfLits : List (DataW Unit) → List Value
  | .lit (.int k n) :: r => .int k n :: cellsOfLits r
  | .agg [.lit (.int k n), .lit (.int k' n')] :: r => .int k n :: .int k' n' :: cellsOfLits r
  | _ => []
def tableOf : DataW Unit → Array Value
  | .agg l => (cellsOfLits l).toArray
  | _ => #[]
def putTable (a : Array Value) : Obj → Obj
  | .cells _ t frozen => .cells a t frozen
  | o => o
/-- A world for the witness: the settled one, the two tables holding what their initialisers lay. -/
noncomputable def laidWorld (os : Os) : World :=
  { World.holding Tryz.prog os ⟨#[], #[], []⟩ with heap := (((World.holding Tryz.prog os ⟨#[], #[], []⟩).heap.modify 2 (putTable (tableOf Rows.laid_math_bits_deBruijn32tab))).modify 3 (putTable (tableOf Rows.laid_math_bits_deBruijn64tab))).modify 1 (putTable (tableOf Rows.laid_internal_strconv_uint64pow10)) }
theorem laid_met (os : Os) : laidMet Tryz.prog Rows.fnStairsRow.laid ((laidWorld os).forCall (fun _ _ => 0) ⟨#[], #[.slice none 0 0, .slice none 0 0], []⟩).memory :=
  laidMet_of_run' 8 (by kernel_rfl) (by kernel_rfl)
theorem reads (os : Os) {H : Type} (enc : TypeId × Value → H) : ∃ places, DataW.whole enc Tryz.prog ((laidWorld os).forCall (fun _ _ => 0) ⟨#[], #[.slice none 0 0, .slice none 0 0], []⟩).memory Tryz.f3.params.toList Rows.fnStairsSpec.vars false #[Value.slice none 0 0, Value.slice none 0 0].toList 8 = some ([.nil, .nil], [], places) :=
  ⟨[], by kernel_rfl⟩

theorem tab_of_laid {W : World} (h : laidMet Tryz.prog Rows.fnStairsRow.laid W) : Lib.TabIs Tryz.prog W "internal/strconv.uint64pow10" .u64 Lib.pow10Tab := by
  obtain ⟨ps, ⟨g1, t1, cs1, f1, p1, q1, _, _, _, _, ⟨g2, t2, cs2, f2, p2, q2, _, _, _, _, ⟨g3, t3, cs3, f3, p3, q3, hg, ht, hvar, hd, _, _⟩, _⟩, _⟩, _⟩ := h
  obtain rfl := Option.some.inj ((show Tryz.prog.globalNamed "internal/strconv.uint64pow10" = some 1 by kernel_rfl).symm.trans hg)
  obtain rfl := Option.some.inj ((show (Tryz.prog.globals[1]?).map (·.type) = some 121 by kernel_rfl).symm.trans ht)
  unfold Lib.TabIs
  rw [show (Rows.laid_internal_strconv_uint64pow10 : DataW Unit) = Lib.tabData .u64 Lib.pow10Tab from rfl] at hd
  rw [hvar, ← Lib.cells_of_tab (show Tryz.prog.underlying 121 = some (.array 20 54) by kernel_rfl) (show Tryz.prog.underlying 54 = some (.int .u64) by kernel_rfl) (by kernel_rfl) (by kernel_rfl) hd]
theorem tabs_of_laid {W : World} (h : laidMet Tryz.prog Rows.fnStairsRow.laid W) : TabsOk W (List.range W.heap.size) TABS := by
  have ht := tab_of_laid h
  unfold Lib.TabIs World.var? at ht
  rw [show Tryz.prog.globalNamed "internal/strconv.uint64pow10" = some 1 by kernel_rfl] at ht
  simp only [Option.bind_some] at ht
  split at ht
  · rename_i cs t fz hc
    injection ht with ht
    have hlt := (Array.getElem?_eq_some_iff.1 hc).1
    refine ⟨⟨List.mem_range.2 hlt, hlt, t, fz, ?_⟩, trivial⟩
    rw [hc, ht]; rfl
  · cases ht

set_option maxRecDepth 100000 in
theorem lifted (os : Os) (started : os.Started) (H : Type) (enc : TypeId × Value → H) (F : Stop.Interp) :
    ReturnsInHanded {} Tryz.checked os 3 .any ((OpenSpec.ofChange Rows.fnStairsSpec).preRow enc Tryz.prog Tryz.f3 Rows.fnStairsRow.domain false Rows.fnStairsRow.laid) (((OpenSpec.ofChange Rows.fnStairsSpec).at F).post enc Tryz.prog Tryz.f3 false true false false) := by
  obtain ⟨places, hx⟩ := reads os enc
  refine returnsInHanded_of_row (C := Tryz.checked) (s := OpenSpec.ofChange Rows.fnStairsSpec) own started (by kernel_rfl) Tryz.func3
    (witness_row_at (enc := enc) (C := Tryz.checked) false (laidWorld os) #[.slice none 0 0, .slice none 0 0] rfl (by kernel_rfl) (by kernel_rfl) (by kernel_rfl)
      (OpenSpec.preRow_of_cond 8 hx (by kernel_rfl) (fun k hk => by cases hk) (by kernel_rfl) (laid_met os))) ?_
  intro W base args ds gs before hval hW _ _ _ hL _ _
  exact law_post (s := s_laws_FnStairs) (by kernel_rfl) ok_laws_FnStairs (by kernel_rfl) (tb := 4) rfl (by kernel_rfl) rfl (fun x hx => ⟨trivial, rfl⟩) rfl
    (fun ds hds => by match ds, hds with | [_, _], _ => rfl) hval hW (tabs_of_laid hL)

theorem said : Rows.FnStairsSaid :=
  OpenClaim.holds_of_cond 3 Tryz.f3 rfl rfl rfl rfl rfl rfl rfl ⟨rfl, rfl, rfl, rfl, rfl⟩ rfl rfl rfl rfl rfl (by kernel_rfl) Tryz.func3 (by kernel_rfl)
    (of_decide_eq_true (by kernel_rfl)) (by unfold Func.isWrapper; first | (rw [if_pos (by decide +kernel)]; kernel_rfl) | (rw [if_neg (by decide +kernel)]; exact ⟨rfl, rfl⟩))
    (fun os started H enc _ F => by rw [OpenClaim.pre_eq_preRow]; exact lifted os started H enc F)

theorem plain (f : FuncId) (fn : Func) (hf : Tryz.pinned.checked.prog.funcNamed "loop.example/g01003/laws.FnStairs" = some f) (hfn : Tryz.pinned.checked.prog.funcs[f]? = some fn) :
    false = Tryz.pinned.checked.prog.looks [] ∧ ∀ (j : Nat) t, fn.params[j]? = some t → Tryz.pinned.checked.prog.wantsStandIn t = false := by
  obtain rfl : f = 3 := Option.some.inj ((show Tryz.prog.funcNamed "loop.example/g01003/laws.FnStairs" = some 3 by kernel_rfl).symm.trans hf) |>.symm
  obtain rfl : fn = Tryz.f3 := (Option.some.inj (Tryz.func3.symm.trans hfn)).symm
  refine ⟨by kernel_rfl, fun j t ht => ?_⟩
  rw [Tryz.params3] at ht
  obtain rfl : t = 22 := by simpa using Array.mem_of_getElem? ht
  exact (show Tryz.prog.wantsStandIn 22 = false by kernel_rfl)

theorem fnStairs_holds : Rows.FnStairsCardSaid :=
  Claim7.holds_tied_plain_at .later [] _ _ _ _ said (fun _ h => by cases h) (by kernel_rfl) (fun _ h => by cases h) fnStairs_row_tie rfl ⟨rfl, rfl⟩ (by kernel_rfl) rfl plain (by kernel_rfl)
end Go.Proofs.YtalgocopemmelaaGreatDoor
