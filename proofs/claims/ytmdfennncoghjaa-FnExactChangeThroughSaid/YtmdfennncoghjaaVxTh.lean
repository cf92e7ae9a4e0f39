/- The change with given values: the program's functions and the reference's. -/
import Derived.Test.YtmdfennncoghjaaVxCh
namespace Go.Vx
open Go Go.Proofs
set_option maxRecDepth 100000
set_option linter.unusedSimpArgs false
set_option linter.unusedVariables false

noncomputable def inn1 (x : Rt) : Bool := unitRt x && (!(x.num == 0) && !(x.num == x.den))
noncomputable def innB (l : List Rt) : Bool := l.all inn1 && risR l
theorem eq_zero_num {x : Rt} (h : unitRt x = true) : eqRt ⟨0, 1⟩ x = (x.num == 0) := by
  have hg := unit_good h
  rw [Bool.eq_iff_iff, beq_iff_eq, eqRt_dec, decide_eq_true_eq]
  constructor
  · intro e; rw [← e]
  · intro e; exact (good_eq hg good_zero (by rw [e]; simp)).symm
theorem eq_one_num {x : Rt} (h : unitRt x = true) : eqRt ⟨1, 1⟩ x = (x.num == x.den) := by
  have hg := unit_good h
  rw [Bool.eq_iff_iff, beq_iff_eq, eqRt_dec, decide_eq_true_eq]
  constructor
  · intro e; rw [← e]
  · intro e; exact (good_eq hg good_one (by rw [e]; simp)).symm
theorem inn_eq (l : List Rt) : (((l.all unitRt && risR l) && !(l.any fun y => eqRt ⟨0, 1⟩ y)) && !(l.any fun y => eqRt ⟨1, 1⟩ y)) = innB l := by
  unfold innB
  rw [Bool.eq_iff_iff]
  simp only [Bool.and_eq_true, Bool.not_eq_true', List.any_eq_false, List.all_eq_true]
  constructor
  · intro ⟨⟨⟨h1, h2⟩, h3⟩, h4⟩
    refine ⟨fun x hx => ?_, h2⟩
    have a := h3 x hx
    have b := h4 x hx
    rw [eq_zero_num (h1 x hx)] at a
    rw [eq_one_num (h1 x hx)] at b
    unfold inn1
    rw [h1 x hx, Bool.eq_false_iff.2 a, Bool.eq_false_iff.2 b]; rfl
  · intro ⟨h1, h2⟩
    have hu : ∀ x ∈ l, unitRt x = true ∧ (x.num == 0) = false ∧ (x.num == x.den) = false := fun x hx => by
      have := h1 x hx
      unfold inn1 at this
      simpa using this
    refine ⟨⟨⟨fun x hx => (hu x hx).1, h2⟩, fun x hx => ?_⟩, fun x hx => ?_⟩
    · rw [eq_zero_num (hu x hx).1, (hu x hx).2.1]; exact Bool.noConfusion
    · rw [eq_one_num (hu x hx).1, (hu x hx).2.2]; exact Bool.noConfusion
theorem inn_unit {l : List Rt} (h : innB l = true) : ∀ x ∈ l, unitRt x = true := fun x hx => by
  unfold innB at h
  rw [Bool.and_eq_true, List.all_eq_true] at h
  have := h.1 x hx
  unfold inn1 at this
  rw [Bool.and_eq_true] at this
  exact this.1
noncomputable def s_lib_IndexRat : Sig := ⟨126, [.list .rat, .val .rat], [.val NI], fun ((l : List Rt), (x : Rt), _) => ⟨[], (idxF (fun y => eqRt x y) l, ()), ()⟩⟩
noncomputable def s_lib_ContainsRat : Sig := ⟨90, [.list .rat, .val .rat], [.val .bool], fun ((l : List Rt), (x : Rt), _) => ⟨[], (l.any (fun y => eqRt x y), ()), ()⟩⟩
theorem ok_lib_IndexRat : GSpec Try.prog s_lib_IndexRat := by
  refine fn_known tab_ok fol Known.nil (by decide) Try.func126 ?_
  rintro ⟨(l : List Rt), ⟨(n : Int), (d : Int)⟩, ⟨⟩⟩ ⟨hl, _⟩ _
  have hl : l.length ≤ 9223372036854775807 := hl
  refine ⟨Nat, fun i => ⟨[(8, .sc (.num .i64 i))], [100000, 3], []⟩, fun i => i ≤ l.length ∧ (l.take i).any (fun y => eqRt ⟨n, d⟩ y) = false, fun i => l.length - i, ⟨0, ⟨Nat.zero_le _, rfl⟩, ?_⟩, ?_⟩
  · repeat' (first | apply And.intro | exact True.intro | exact Lf.mk (by with_reducible rfl) | apply Lf.mk)
    all_goals rfl
  · rintro i ⟨g1, g2⟩
    repeat' (first | with_reducible apply andAll_cons | with_reducible apply andAll_nil | (with_reducible apply Cf.mk; kernel_rfl) | apply And.intro | intro _ | exact True.intro | apply Lf.mk)
    all_goals (try simp only [Bool.not_eq_true', Bool.not_eq_false', Bool.not_not, decide_eq_true_eq, decide_eq_false_iff_not, beq_iff_eq, bne_iff_ne, beq_eq_false_iff_ne, bne_eq_false_iff_eq, ne_eq, Bool.and_eq_true, Bool.and_eq_false_iff, Bool.or_eq_true, Bool.or_eq_false_iff, Int.toNat_natCast, Nat.zero_add, Int.ofNat_lt, Int.ofNat_le, List.length_cons, List.length_nil, List.drop_zero, List.take_length] at *)
    all_goals first | omega | skip
    · exact (idxF_hit zR (by assumption) g2 (by assumption)).symm
    · refine ⟨i + 1, ⟨by omega, take_all_false zR (by assumption) g2 (by assumption)⟩, by omega, ?_⟩
      repeat' (first | apply And.intro | exact True.intro | exact Lf.mk (by with_reducible rfl) | apply Lf.mk)
      all_goals (rw [Int.natCast_add]; rfl)
    · rename_i h3
      rw [List.take_of_length_le (by omega)] at g2
      exact (idxF_none g2).symm
theorem ok_lib_ContainsRat : GSpec Try.prog s_lib_ContainsRat := by
  refine fn_known tab_ok fol (Known.nil.cons ok_lib_IndexRat (by kernel_rfl)) (by decide) Try.func90 ?_
  rintro ⟨(l : List Rt), ⟨(n : Int), (d : Int)⟩, ⟨⟩⟩ - _
  repeat' (first | with_reducible apply andAll_cons | with_reducible apply andAll_nil | (with_reducible apply Cf.mk; kernel_rfl) | apply And.intro | intro _ | exact True.intro | apply Lf.mk)
  all_goals (try simp only [Bool.not_eq_true', Bool.not_eq_false', Bool.not_not, decide_eq_true_eq, decide_eq_false_iff_not, beq_iff_eq, bne_iff_ne, beq_eq_false_iff_ne, bne_eq_false_iff_eq, ne_eq, Bool.and_eq_true, Bool.and_eq_false_iff, Bool.or_eq_true, Bool.or_eq_false_iff, Int.toNat_natCast, Nat.zero_add, Int.ofNat_lt, Int.ofNat_le, List.length_cons, List.length_nil, List.drop_zero, List.take_length] at *)
  exact idxF_any
noncomputable def s_impl_areInner : Sig := ⟨51, [.list .rat], [.val .bool], fun ((l : List Rt), _) => ⟨[], (innB l, ()), ()⟩⟩
noncomputable def s_spec_cjInner : Sig := ⟨48, [.list .rat], [.val .bool], fun ((l : List Rt), _) => ⟨[], (innB l, ()), ()⟩⟩
theorem ok_impl_areInner : GSpec Try.prog s_impl_areInner := by
  refine fn_known tab_ok fol (((((Known.nil.cons ok_impl_areUnits (by kernel_rfl)).cons ok_impl_isRising (by kernel_rfl)).cons ok_impl_zero (by kernel_rfl)).cons ok_impl_oneRat (by kernel_rfl)).cons ok_lib_ContainsRat (by kernel_rfl)) (by decide) Try.func51 ?_
  rintro ⟨(l : List Rt), ⟨⟩⟩ ⟨hl, _⟩ -
  have hl : l.length ≤ 9223372036854775807 := hl
  repeat' (first | with_reducible apply andAll_cons | with_reducible apply andAll_nil | (with_reducible apply Cf.mk; kernel_rfl) | apply And.intro | intro _ | exact True.intro | apply Lf.mk)
  all_goals (try simp only [cond_and, List.drop_zero, List.take_length, Nat.zero_add] at *)
  all_goals first
    | omega
    | contradiction
    | exact inn_eq l
    | exact unit_good (List.all_eq_true.1 (by assumption : l.all unitRt = true) _ (by assumption))
    | (rw [← inn_eq l]; simp only [*, Bool.and_true, Bool.true_and, Bool.false_and, Bool.and_false]; done)
    | (rw [← inn_eq l, (by assumption : (!l.any fun y => eqRt ⟨0, 1⟩ y) = false)]; simp; done)
    | skip
noncomputable def s_spec_ivRising : Sig := ⟨86, [.list .rat], [.val .bool], fun ((l : List Rt), _) => ⟨[∀ x ∈ l, unitRt x = true], (risR l, ()), ()⟩⟩
theorem bI' {C P Q : Bool} (h : (bif !C then true else bif P then Q else false) = true) (h2 : C = true) : Q = true := by revert h h2; cases C <;> cases P <;> cases Q <;> decide
theorem bJ' {C P Q : Bool} (h : (bif !C then true else bif P then Q else false) = false) (h2 : P = true) : Q = false := by revert h h2; cases C <;> cases P <;> cases Q <;> decide
theorem bK' {C : Bool} (h : (bif !C then true else false) = true) (h2 : C = true) : False := by revert h h2; cases C <;> decide
theorem ris_no {l : List Rt} {i : Nat} (hi : i < l.length) (h0 : (0 : Int) < i) (h : ¬ ltR (getA zR l ((i : Int) - 1).toNat) (getA zR l i)) : false = risR l := by
  symm; rw [Bool.eq_false_iff]; intro h3
  have := risR_iff.1 h3 (i - 1) (by omega)
  rw [pred_nat h0] at h
  rw [show i - 1 + 1 = i by omega] at this
  exact h this
theorem inn_get {l : List Rt} (h : innB l = true) {i : Nat} (hi : i < l.length) : inn1 (getA zR l i) = true := by
  unfold innB at h; rw [Bool.and_eq_true, List.all_eq_true] at h; exact h.1 _ (getA_mem _ hi)
theorem inn_no {l : List Rt} {i : Nat} (hi : i < l.length) (h : inn1 (getA zR l i) = false) : false = innB l := by
  symm; rw [Bool.eq_false_iff]; intro h2; rw [inn_get h2 hi] at h; cases h
theorem inn_noz {l : List Rt} {i : Nat} (hi : i < l.length) (h : (getA zR l i).num = 0) : false = innB l := inn_no hi (by unfold inn1; rw [h]; simp)
theorem inn_noo {l : List Rt} {i : Nat} (hi : i < l.length) (h : (getA zR l i).num = (getA zR l i).den) : false = innB l := inn_no hi (by unfold inn1; rw [h]; simp)
theorem inn_nou {l : List Rt} {i : Nat} (hi : i < l.length) (h : unitRt (getA zR l i) = false) : false = innB l := inn_no hi (by unfold inn1; rw [h]; rfl)
theorem inn_ofall {l : List Rt} {i : Nat} (hi : ¬ i < l.length) (g1 : i ≤ l.length) (g2 : (l.take i).all inn1 = true) : ∀ x ∈ l, unitRt x = true := fun x hx => by
  rw [List.take_of_length_le (by omega), List.all_eq_true] at g2
  have := g2 x hx
  unfold inn1 at this; rw [Bool.and_eq_true] at this; exact this.1
theorem inn_fin {l : List Rt} {i : Nat} (hi : ¬ i < l.length) (g1 : i ≤ l.length) (g2 : (l.take i).all inn1 = true) : risR l = innB l := by
  rw [List.take_of_length_le (by omega)] at g2
  unfold innB; rw [g2]; rfl
theorem ok_spec_ivRising : GSpec Try.prog s_spec_ivRising := by
  refine fn_known tab_ok fol ((Known.nil.cons ok_spec_raUnit (by kernel_rfl)).cons ok_spec_raCmp (by kernel_rfl)) (by decide) Try.func86 ?_
  rintro ⟨(l : List Rt), ⟨⟩⟩ ⟨hl, _⟩ ⟨hu, _⟩
  have hl : l.length ≤ 9223372036854775807 := hl
  have hg : ∀ i, i < l.length → unitRt (getA zR l i) = true := fun i hi => hu _ (getA_mem _ hi)
  refine ⟨Nat, fun i => ⟨[(7, .sc (.num .i64 i))], [100000], []⟩, fun i => i ≤ l.length ∧ ∀ j, j + 1 < i → ltR (getA zR l j) (getA zR l (j + 1)), fun i => l.length - i, ⟨0, ⟨Nat.zero_le _, fun j hj => by omega⟩, ?_⟩, ?_⟩
  · repeat' (first | apply And.intro | exact True.intro | exact Lf.mk (by with_reducible rfl) | apply Lf.mk)
    all_goals rfl
  · rintro i ⟨g1, g3⟩
    repeat' (first | with_reducible apply andAll_cons | with_reducible apply andAll_nil | (with_reducible apply Cf.mk; kernel_rfl) | apply And.intro | intro _ | exact True.intro | apply Lf.mk)
    all_goals (try simp only [Bool.not_eq_true', Bool.not_eq_false', Bool.not_not, decide_eq_true_eq, decide_eq_false_iff_not, beq_iff_eq, bne_iff_ne, beq_eq_false_iff_ne, bne_eq_false_iff_eq, ne_eq, Bool.and_eq_true, Bool.and_eq_false_iff, Bool.or_eq_true, Bool.or_eq_false_iff, Int.toNat_natCast, Nat.zero_add, Int.ofNat_lt, Int.ofNat_le, List.length_cons, List.length_nil, List.drop_zero, List.take_length] at *)
    all_goals first
      | omega
      | contradiction
      | exact unit_good (hg _ (by omega))
      | exact absurd ((hg i (by assumption)).symm.trans (by assumption : unitRt (getA zR l i) = false)) Bool.noConfusion
      | exact ris_no (by assumption) (by assumption) (cmp_ge (bI' (by assumption) (by assumption)))
      | exact (bK' (by assumption) (by assumption)).elim
      | skip
    · rename_i q1 q2 q3 q4
      have h8 := cmp_lt (bJ' q4 (decide_eq_true q3))
      rw [pred_nat q3] at h8
      refine ⟨i + 1, ⟨by omega, fun j hj => ?_⟩, by omega, ?_⟩
      · rcases Nat.lt_or_eq_of_le (Nat.le_of_lt_succ hj) with h7 | h7
        · exact g3 j h7
        · rw [show j = i - 1 by omega, show i - 1 + 1 = i by omega]; exact h8
      · repeat' (first | apply And.intro | exact True.intro | exact Lf.mk (by with_reducible rfl) | apply Lf.mk)
        all_goals (rw [Int.natCast_add]; rfl)
    · rename_i q1 q2 q3 q4
      refine ⟨i + 1, ⟨by omega, fun j hj => by omega⟩, by omega, ?_⟩
      repeat' (first | apply And.intro | exact True.intro | exact Lf.mk (by with_reducible rfl) | apply Lf.mk)
      all_goals (rw [Int.natCast_add]; rfl)
    · exact (risR_iff.2 fun j hj => g3 j (by omega)).symm
theorem ok_spec_cjInner : GSpec Try.prog s_spec_cjInner := by
  refine fn_known tab_ok fol ((Known.nil.cons ok_spec_raUnit (by kernel_rfl)).cons ok_spec_ivRising (by kernel_rfl)) (by decide) Try.func48 ?_
  rintro ⟨(l : List Rt), ⟨⟩⟩ ⟨hl, _⟩ -
  have hl : l.length ≤ 9223372036854775807 := hl
  refine ⟨Nat, fun i => ⟨[(7, .sc (.num .i64 i))], [100000], []⟩, fun i => i ≤ l.length ∧ (l.take i).all inn1 = true, fun i => l.length - i, ⟨0, ⟨Nat.zero_le _, rfl⟩, ?_⟩, ?_⟩
  · repeat' (first | apply And.intro | exact True.intro | exact Lf.mk (by with_reducible rfl) | apply Lf.mk)
    all_goals rfl
  · rintro i ⟨g1, g2⟩
    repeat' (first | with_reducible apply andAll_cons | with_reducible apply andAll_nil | (with_reducible apply Cf.mk; kernel_rfl) | apply And.intro | intro _ | exact True.intro | apply Lf.mk)
    all_goals (try simp only [Bool.not_eq_true', Bool.not_eq_false', Bool.not_not, decide_eq_true_eq, decide_eq_false_iff_not, beq_iff_eq, bne_iff_ne, beq_eq_false_iff_ne, bne_eq_false_iff_eq, ne_eq, Bool.and_eq_true, Bool.and_eq_false_iff, Bool.or_eq_true, Bool.or_eq_false_iff, Int.toNat_natCast, Nat.zero_add, Int.ofNat_lt, Int.ofNat_le, List.length_cons, List.length_nil, List.drop_zero, List.take_length] at *)
    all_goals first
      | omega
      | contradiction
      | exact inn_noz (by assumption) (by assumption)
      | exact inn_noo (by assumption) (by assumption)
      | exact inn_nou (by assumption) (by assumption)
      | exact inn_ofall (by assumption) g1 g2 _ (by assumption)
      | exact inn_fin (by assumption) g1 g2
      | skip
    rename_i q1 q2 q3 q4
    refine ⟨i + 1, ⟨by omega, ?_⟩, by omega, ?_⟩
    · rw [all_take_succ _ zR l i q1, g2]
      show (true && inn1 (getA zR l i)) = true
      unfold inn1
      have q2 : unitRt (getA zR l i) = true := q2
      have q3 : (getA zR l i).num ≠ 0 := q3
      have q4 : (getA zR l i).num ≠ (getA zR l i).den := q4
      rw [q2, beq_false_of_ne q3, beq_false_of_ne q4]; rfl
    · repeat' (first | apply And.intro | exact True.intro | exact Lf.mk (by with_reducible rfl) | apply Lf.mk)
      all_goals (rw [Int.natCast_add]; rfl)
/-- the points of the change: the first i inner ones behind 0 -/
def thR (a b : List Rt) (i : Nat) : List Pt := ⟨⟨0, 1⟩, ⟨0, 1⟩⟩ :: (List.range i).map fun k => ⟨getA zR a k, getA zR b k⟩
theorem thR_length (a b : List Rt) (i : Nat) : (thR a b i).length = i + 1 := by simp [thR]
theorem thR_succ (a b : List Rt) (i : Nat) : thR a b i ++ [⟨getA zR a i, getA zR b i⟩] = thR a b (i + 1) := by
  unfold thR; rw [List.range_succ, List.map_append]; rfl
def thL (a b : List Rt) : List Pt := thR a b a.length ++ [⟨⟨1, 1⟩, ⟨1, 1⟩⟩]
noncomputable def thOk (a b : List Rt) : Bool := innB a && (innB b && (decide (a.length = b.length) && mapOk (thL a b)))
noncomputable def thRes (a b : List Rt) : List Pt × Bool := match thOk a b with
  | true => (thL a b, true)
  | false => ([], false)
theorem th_f1 {a b : List Rt} (h : innB a = false) : thRes a b = ([], false) := by unfold thRes thOk; rw [h]; rfl
theorem th_f2 {a b : List Rt} (h : innB b = false) : thRes a b = ([], false) := by unfold thRes thOk; rw [h]; cases innB a <;> rfl
theorem th_f3 {a b : List Rt} (h : ¬ a.length = b.length) : thRes a b = ([], false) := by unfold thRes thOk; rw [decide_eq_false h]; cases innB a <;> cases innB b <;> rfl
theorem th_f4 {a b : List Rt} (h : mapOk (thL a b) = false) : thRes a b = ([], false) := by unfold thRes thOk; rw [h]; cases innB a <;> cases innB b <;> cases decide (a.length = b.length) <;> rfl
theorem th_t {a b : List Rt} (h1 : innB a = true) (h2 : innB b = true) (h3 : a.length = b.length) (h4 : mapOk (thL a b) = true) : thRes a b = (thL a b, true) := by unfold thRes thOk; rw [h1, h2, decide_eq_true h3, h4]; rfl
theorem thL_length (a b : List Rt) : (thL a b).length = a.length + 2 := by unfold thL; rw [List.length_append, thR_length]; rfl
theorem th_f5 {a b : List Rt} (h : (12 : Int) < a.length) : thRes a b = ([], false) := by
  apply th_f4
  rw [Bool.eq_false_iff]; intro h2
  have := (mapOk_iff.1 h2).1
  rw [thL_length] at this; omega
theorem th_len (a b : List Rt) : (thRes a b).1.length ≤ 12 := by
  cases h : mapOk (thL a b) with
  | false => rw [th_f4 h]; exact Nat.zero_le _
  | true =>
    have := (mapOk_iff.1 h).1
    cases h2 : thOk a b with
    | false => unfold thRes; rw [h2]; exact Nat.zero_le _
    | true => unfold thRes; rw [h2]; exact this.2
theorem thL_no {a b : List Rt} {i : Nat} (hi : ¬ i < a.length) (g1 : i ≤ a.length) (h : mapOk (thR a b i ++ [⟨⟨1, 1⟩, ⟨1, 1⟩⟩]) = false) : mapOk (thL a b) = false := by
  rw [show i = a.length by omega] at h; exact h
theorem thL_yes {a b : List Rt} {i : Nat} (h1 : innB a = true) (h2 : innB b = true) (h3 : a.length = b.length) (hi : ¬ i < a.length) (g1 : i ≤ a.length) (h : mapOk (thR a b i ++ [⟨⟨1, 1⟩, ⟨1, 1⟩⟩]) = true) : (thR a b i ++ [⟨⟨1, 1⟩, ⟨1, 1⟩⟩], true) = thRes a b := by
  rw [show i = a.length by omega] at h ⊢
  exact (th_t h1 h2 h3 h).symm
noncomputable def s_impl_ChangeThrough : Sig := ⟨19, [.list .rat, .list .rat], [.list 68 .pt, .val .bool], fun ((a : List Rt), (b : List Rt), _) => ⟨[a.length ≤ 1000000000], ((thRes a b).1, (thRes a b).2, ()), ()⟩⟩
noncomputable def s_spec_ChangeThrough : Sig := ⟨17, [.list .rat, .list .rat], [.list 68 .pt, .val .bool], fun ((a : List Rt), (b : List Rt), _) => ⟨[a.length ≤ 1000000000], ((thRes a b).1, (thRes a b).2, ()), ()⟩⟩
theorem ok_impl_ChangeThrough : GSpec Try.prog s_impl_ChangeThrough := by
  refine fn_known tab_ok fol ((((Known.nil.cons ok_impl_areInner (by kernel_rfl)).cons ok_impl_zero (by kernel_rfl)).cons ok_impl_oneRat (by kernel_rfl)).cons ok_impl_isMap (by kernel_rfl)) (by decide) Try.func19 ?_
  rintro ⟨(a : List Rt), (b : List Rt), ⟨⟩⟩ - ⟨ha, _⟩
  repeat' (first | with_reducible apply andAll_cons | with_reducible apply andAll_nil | (with_reducible apply Cf.mk; kernel_rfl) | apply And.intro | intro _ | exact True.intro | apply Lf.mk)
  all_goals (try simp only [Bool.not_eq_true', Bool.not_eq_false', Bool.not_not, decide_eq_true_eq, decide_eq_false_iff_not, beq_iff_eq, bne_iff_ne, beq_eq_false_iff_ne, bne_eq_false_iff_eq, ne_eq, Bool.and_eq_true, Bool.and_eq_false_iff, Bool.or_eq_true, Bool.or_eq_false_iff, Int.toNat_natCast, Nat.zero_add, Int.ofNat_lt, Int.ofNat_le, List.length_cons, List.length_nil, List.drop_zero, List.take_length] at *)
  all_goals first
    | omega
    | contradiction
    | (rw [th_f1 (by assumption)]; done)
    | (rw [th_f2 (by assumption)]; done)
    | (rw [th_f3 (by omega)]; done)
    | skip
  rename_i q1 q2 q3
  refine ⟨Nat, fun i => ⟨[(29, .sc (.num .i64 i)), (6, .sc (.own 7777777))], [100000, 100001], [(7777777, .row 68 .pt (thR a b i))]⟩, fun i => i ≤ a.length, fun i => a.length - i, ⟨0, Nat.zero_le _, ?_⟩, ?_⟩
  · repeat' (first | apply And.intro | exact True.intro | exact Lf.mk (by with_reducible rfl) | apply Lf.mk)
    all_goals rfl
  · intro i g1
    have hm := thR_length a b i
    repeat' (first | with_reducible apply andAll_cons | with_reducible apply andAll_nil | (with_reducible apply Cf.mk; kernel_rfl) | apply And.intro | intro _ | exact True.intro | apply Lf.mk)
    all_goals (try simp only [Bool.not_eq_true', Bool.not_eq_false', Bool.not_not, decide_eq_true_eq, decide_eq_false_iff_not, beq_iff_eq, bne_iff_ne, beq_eq_false_iff_ne, bne_eq_false_iff_eq, ne_eq, Bool.and_eq_true, Bool.and_eq_false_iff, Bool.or_eq_true, Bool.or_eq_false_iff, Int.toNat_natCast, Nat.zero_add, Int.ofNat_lt, Int.ofNat_le, List.length_cons, List.length_nil, List.drop_zero, List.take_length] at *)
    all_goals first
      | omega
      | (show (_ + 1) * 32 ≤ 140737488355328; omega)
      | (rw [th_f4 (thL_no (by assumption) g1 (by assumption))]; done)
      | exact congrArg Prod.fst (thL_yes q1 q2 (by omega) (by assumption) g1 (by assumption))
      | exact congrArg Prod.snd (thL_yes q1 q2 (by omega) (by assumption) g1 (by assumption))
      | skip
    refine ⟨i + 1, by omega, by omega, ?_⟩
    repeat' (first | apply And.intro | exact True.intro | exact Lf.mk (by with_reducible rfl) | apply Lf.mk)
    all_goals first | (rw [Int.natCast_add]; rfl) | exact thR_succ a b i
theorem ok_spec_ChangeThrough : GSpec Try.prog s_spec_ChangeThrough := by
  refine fn_known tab_ok fol (((Known.nil.cons ok_spec_cjInner (by kernel_rfl)).cons ok_spec_raInt (by kernel_rfl)).cons ok_spec_imGood (by kernel_rfl)) (by decide) Try.func17 ?_
  rintro ⟨(a : List Rt), (b : List Rt), ⟨⟩⟩ - ⟨ha, _⟩
  repeat' (first | with_reducible apply andAll_cons | with_reducible apply andAll_nil | (with_reducible apply Cf.mk; kernel_rfl) | apply And.intro | intro _ | exact True.intro | apply Lf.mk)
  all_goals (try simp only [Bool.not_eq_true', Bool.not_eq_false', Bool.not_not, decide_eq_true_eq, decide_eq_false_iff_not, beq_iff_eq, bne_iff_ne, beq_eq_false_iff_ne, bne_eq_false_iff_eq, ne_eq, Bool.and_eq_true, Bool.and_eq_false_iff, Bool.or_eq_true, Bool.or_eq_false_iff, Int.toNat_natCast, Nat.zero_add, Int.ofNat_lt, Int.ofNat_le, List.length_cons, List.length_nil, List.drop_zero, List.take_length] at *)
  all_goals first
    | omega
    | contradiction
    | (rw [th_f1 (by assumption)]; done)
    | (rw [th_f2 (by assumption)]; done)
    | (rw [th_f3 (by omega)]; done)
    | (rw [th_f5 (by omega)]; done)
    | skip
  rename_i q3 q0 q1 q2
  refine ⟨Nat, fun i => ⟨[(35, .sc (.num .i64 i)), (6, .sc (.own 7777777))], [100000, 100001], [(7777777, .row 68 .pt (thR a b i))]⟩, fun i => i ≤ a.length, fun i => a.length - i, ⟨0, Nat.zero_le _, ?_⟩, ?_⟩
  · repeat' (first | apply And.intro | exact True.intro | exact Lf.mk (by with_reducible rfl) | apply Lf.mk)
    all_goals rfl
  · intro i g1
    have hm := thR_length a b i
    repeat' (first | with_reducible apply andAll_cons | with_reducible apply andAll_nil | (with_reducible apply Cf.mk; kernel_rfl) | apply And.intro | intro _ | exact True.intro | apply Lf.mk)
    all_goals (try simp only [Bool.not_eq_true', Bool.not_eq_false', Bool.not_not, decide_eq_true_eq, decide_eq_false_iff_not, beq_iff_eq, bne_iff_ne, beq_eq_false_iff_ne, bne_eq_false_iff_eq, ne_eq, Bool.and_eq_true, Bool.and_eq_false_iff, Bool.or_eq_true, Bool.or_eq_false_iff, Int.toNat_natCast, Nat.zero_add, Int.ofNat_lt, Int.ofNat_le, List.length_cons, List.length_nil, List.drop_zero, List.take_length] at *)
    all_goals first
      | omega
      | (show (_ + 1) * 32 ≤ 140737488355328; omega)
      | (rw [th_f4 (thL_no (by assumption) g1 (by assumption))]; done)
      | exact congrArg Prod.fst (thL_yes q1 q2 (by omega) (by assumption) g1 (by assumption))
      | exact congrArg Prod.snd (thL_yes q1 q2 (by omega) (by assumption) g1 (by assumption))
      | skip
    refine ⟨i + 1, by omega, by omega, ?_⟩
    repeat' (first | apply And.intro | exact True.intro | exact Lf.mk (by with_reducible rfl) | apply Lf.mk)
    all_goals first | (rw [Int.natCast_add]; rfl) | exact thR_succ a b i
end Go.Vx
