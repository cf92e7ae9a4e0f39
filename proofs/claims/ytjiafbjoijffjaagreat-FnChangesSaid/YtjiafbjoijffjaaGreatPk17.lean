/- Intervals: the program's functions and the reference's. -/
import Derived.Test.YtjiafbjoijffjaaGreatPk13
import Derived.Test.YtjiafbjoijffjaaGreatPk16
import Derived.Test.YtjiafbjoijffjaaGreatPk15
namespace Go.Vx
open Go Go.Proofs
set_option maxRecDepth 100000
set_option linter.unusedSimpArgs false
set_option linter.unusedVariables false

noncomputable def s_impl_isCoord : Sig := ⟨160, [.val .rat], [.val .bool], fun ((r : Rt), _) => ⟨[], (coordRt r, ()), ()⟩⟩
noncomputable def s_spec_imCoord : Sig := ⟨163, [.val .rat], [.val .bool], fun ((r : Rt), _) => ⟨[], (coordRt r, ()), ()⟩⟩
theorem ok_impl_isCoord : GSpec Tryz.prog s_impl_isCoord := by
  refine fn_known tab_ok fol (Known.nil.cons ok_impl_isUnit (by kernel_rfl)) (by decide) Tryz.func160 ?_
  rintro ⟨⟨(n : Int), (d : Int)⟩, ⟨⟩⟩ hl _
  repeat' (first | with_reducible apply andAll_cons | with_reducible apply andAll_nil | (with_reducible apply Cf.mk; kernel_rfl) | apply And.intro | intro _ | exact True.intro | apply Lf.mk)
  all_goals (try simp only [Bool.not_eq_true', Bool.not_eq_false', Bool.not_not, decide_eq_true_eq, decide_eq_false_iff_not, beq_iff_eq, bne_iff_ne, beq_eq_false_iff_ne, bne_eq_false_iff_eq, ne_eq, Bool.and_eq_true, Bool.and_eq_false_iff, Bool.or_eq_true, Bool.or_eq_false_iff, Int.toNat_natCast, Nat.zero_add, Int.ofNat_lt, Int.ofNat_le, List.length_cons, List.length_nil, List.drop_zero, List.take_length] at *)
  all_goals (try change @Eq Bool _ _)
  all_goals (first | (simp_all [coordRt]; done) | (simp_all [coordRt]; omega))
theorem ok_spec_imCoord : GSpec Tryz.prog s_spec_imCoord := by
  refine fn_known tab_ok fol (Known.nil.cons ok_spec_raUnit (by kernel_rfl)) (by decide) Tryz.func163 ?_
  rintro ⟨⟨(n : Int), (d : Int)⟩, ⟨⟩⟩ hl _
  repeat' (first | with_reducible apply andAll_cons | with_reducible apply andAll_nil | (with_reducible apply Cf.mk; kernel_rfl) | apply And.intro | intro _ | exact True.intro | apply Lf.mk)
  all_goals (try simp only [Bool.not_eq_true', Bool.not_eq_false', Bool.not_not, decide_eq_true_eq, decide_eq_false_iff_not, beq_iff_eq, bne_iff_ne, beq_eq_false_iff_ne, bne_eq_false_iff_eq, ne_eq, Bool.and_eq_true, Bool.and_eq_false_iff, Bool.or_eq_true, Bool.or_eq_false_iff, Int.toNat_natCast, Nat.zero_add, Int.ofNat_lt, Int.ofNat_le, List.length_cons, List.length_nil, List.drop_zero, List.take_length] at *)
  all_goals (try change @Eq Bool _ _)
  all_goals (first | (simp_all [coordRt]; done) | (simp_all [coordRt]; omega))
noncomputable def s_impl_isMap_1 : Sig := ⟨159, [.val .pt], [.val .bool], fun ((p : Pt), _) => ⟨[], (!ptOk p, ()), ()⟩⟩
theorem ok_impl_isMap_1 : GSpec Tryz.prog s_impl_isMap_1 := by
  refine fn_known tab_ok fol (Known.nil.cons ok_impl_isCoord (by kernel_rfl)) (by decide) Tryz.func159 ?_
  rintro ⟨⟨⟨(n : Int), (d : Int)⟩, ⟨(m : Int), (e : Int)⟩⟩, ⟨⟩⟩ hl _
  repeat' (first | with_reducible apply andAll_cons | with_reducible apply andAll_nil | (with_reducible apply Cf.mk; kernel_rfl) | apply And.intro | intro _ | exact True.intro | apply Lf.mk)
  all_goals (try simp only [Bool.not_eq_true', Bool.not_eq_false', Bool.not_not, decide_eq_true_eq, decide_eq_false_iff_not, beq_iff_eq, bne_iff_ne, beq_eq_false_iff_ne, bne_eq_false_iff_eq, ne_eq, Bool.and_eq_true, Bool.and_eq_false_iff, Bool.or_eq_true, Bool.or_eq_false_iff, Int.toNat_natCast, Nat.zero_add, Int.ofNat_lt, Int.ofNat_le, List.length_cons, List.length_nil, List.drop_zero, List.take_length] at *)
  all_goals (try change @Eq Bool _ _)
  all_goals (simp_all [ptOk])
noncomputable def s_impl_xsOf : Sig := ⟨162, [.list .pt], [.list 26 .rat], fun ((f : List Pt), _) => ⟨[f.length ≤ 1000000000], (f.map Pt.x, ()), ()⟩⟩
theorem map_take_succ {α β : Type} (g : α → β) (d : α) (l : List α) (i : Nat) (h : i < l.length) : (l.take i).map g ++ [g (getA d l i)] = (l.take (i + 1)).map g := by
  rw [List.take_add_one, List.map_append, List.getElem?_eq_getElem h, getA_lt _ _ _ h]; rfl
theorem ok_impl_xsOf : GSpec Tryz.prog s_impl_xsOf := by
  refine fn_known tab_ok fol Known.nil (by decide) Tryz.func162 ?_
  rintro ⟨(f : List Pt), ⟨⟩⟩ ⟨hl, _⟩ ⟨h1, _⟩
  refine ⟨Nat, fun i => ⟨[(8, .sc (.num .i64 i)), (3, .sc (.own 7777777))], [100000], [(7777777, .row 26 .rat ((f.take i).map Pt.x))]⟩, fun i => i ≤ f.length, fun i => f.length - i, ⟨0, Nat.zero_le _, ?_⟩, ?_⟩
  · repeat' (first | apply And.intro | exact True.intro | exact Lf.mk (by with_reducible rfl) | apply Lf.mk)
    all_goals first | rfl | simp
  · intro i g1
    have hm : ((f.take i).map Pt.x).length = i := by simp; omega
    repeat' (first | with_reducible apply andAll_cons | with_reducible apply andAll_nil | (with_reducible apply Cf.mk; kernel_rfl) | apply And.intro | intro _ | exact True.intro | apply Lf.mk)
    all_goals simp only [hm] at *
    all_goals (try simp only [Bool.not_eq_true', Bool.not_eq_false', Bool.not_not, decide_eq_true_eq, decide_eq_false_iff_not, beq_iff_eq, bne_iff_ne, beq_eq_false_iff_ne, bne_eq_false_iff_eq, ne_eq, Bool.and_eq_true, Bool.and_eq_false_iff, Bool.or_eq_true, Bool.or_eq_false_iff, Int.toNat_natCast, Nat.zero_add, Int.ofNat_lt, Int.ofNat_le, List.length_cons, List.length_nil, List.drop_zero, List.take_length] at *)
    all_goals first | omega | (show (_ + 1) * 16 ≤ 140737488355328; omega) | skip
    · refine ⟨i + 1, by omega, by omega, ?_⟩
      repeat' (first | apply And.intro | exact True.intro | exact Lf.mk (by with_reducible rfl) | apply Lf.mk)
      all_goals first | (rw [Int.natCast_add]; rfl) | exact map_take_succ Pt.x zP f i (by assumption) | trace_state
    · rw [List.take_of_length_le (by omega)]
noncomputable def s_impl_isRising : Sig := ⟨161, [.list .rat], [.val .bool], fun ((l : List Rt), _) => ⟨[∀ x ∈ l, goodRt x = true], (risR l, ()), ()⟩⟩
theorem risR_no {l : List Rt} {i : Nat} (h : i + 1 < l.length) (h2 : lessRt (getA zR l i) (getA zR l (i + 1)) = false) : risR l = false := by
  rw [Bool.eq_false_iff, ne_eq, risR_iff]
  intro h3
  have := h3 i h
  unfold lessRt at h2
  exact of_decide_eq_false h2 this
theorem ok_impl_isRising : GSpec Tryz.prog s_impl_isRising := by
  refine fn_known tab_ok fol (Known.nil.cons ok_impl_less (by kernel_rfl)) (by decide) Tryz.func161 ?_
  rintro ⟨(l : List Rt), ⟨⟩⟩ ⟨hl, _⟩ ⟨h1, _⟩
  have hl : l.length ≤ 9223372036854775807 := hl
  refine ⟨Nat, fun i => ⟨[(3, .sc (.num .i64 ((i : Int) + 1)))], [100000], []⟩, fun i => (i = 0 ∨ i < l.length) ∧ ∀ j, j < i → ltR (getA zR l j) (getA zR l (j + 1)), fun i => l.length - i, ⟨0, ⟨.inl rfl, fun j hj => by omega⟩, ?_⟩, ?_⟩
  · repeat' (first | apply And.intro | exact True.intro | exact Lf.mk (by with_reducible rfl) | apply Lf.mk)
    all_goals rfl
  · rintro i ⟨g1, g2⟩
    repeat' (first | with_reducible apply andAll_cons | with_reducible apply andAll_nil | (with_reducible apply Cf.mk; kernel_rfl) | apply And.intro | intro _ | exact True.intro | apply Lf.mk)
    all_goals (try simp only [Bool.not_eq_true', Bool.not_eq_false', Bool.not_not, decide_eq_true_eq, decide_eq_false_iff_not, beq_iff_eq, bne_iff_ne, beq_eq_false_iff_ne, bne_eq_false_iff_eq, ne_eq, Bool.and_eq_true, Bool.and_eq_false_iff, Bool.or_eq_true, Bool.or_eq_false_iff, Int.toNat_natCast, Nat.zero_add, Int.ofNat_lt, Int.ofNat_le, List.length_cons, List.length_nil, List.drop_zero, List.take_length] at *)
    all_goals first | omega | exact h1 _ (getA_mem _ (by omega)) | skip
    all_goals try simp only [show ((i : Int) + 1 - 1).toNat = i by omega, show ((i : Int) + 1).toNat = i + 1 by omega] at *
    · exact (risR_no (i := i) (by omega) (by assumption)).symm
    · rename_i h3 h4
      refine ⟨i + 1, ⟨.inr (by omega), fun j hj => ?_⟩, by omega, ?_⟩
      · rcases Nat.lt_or_eq_of_le (Nat.le_of_lt_succ hj) with h5 | h5
        · exact g2 j h5
        · subst h5; exact of_decide_eq_true h4
      · repeat' (first | apply And.intro | exact True.intro | exact Lf.mk (by with_reducible rfl) | apply Lf.mk)
        all_goals (rw [Int.natCast_add]; rfl)
    · exact (risR_iff.2 (fun j hj => g2 j (by omega))).symm
noncomputable def s_impl_isMap : Sig := ⟨85, [.list .pt], [.val .bool], fun ((f : List Pt), _) => ⟨[], (mapOk f, ()), ()⟩⟩
noncomputable def s_spec_imGood : Sig := ⟨88, [.list .pt], [.val .bool], fun ((f : List Pt), _) => ⟨[], (mapOk f, ()), ()⟩⟩
theorem mapOk_no1 {f : List Pt} (h : inB f.length 2 12 = false) : mapOk f = false := by unfold mapOk; rw [h]; rfl
theorem eqRt_dec (a b : Rt) : eqRt a b = decide (a = b) := by
  rw [Bool.eq_iff_iff, decide_eq_true_eq]
  unfold eqRt
  cases a; cases b; simp
theorem mapOk_eq {f : List Pt} (h : inB f.length 2 12 = true) : mapOk f = ((!(f.any fun x => !ptOk x)) && (eqRt ⟨(getA VK.pt.dflt f (Int.toNat 0)).1.num, (getA VK.pt.dflt f (Int.toNat 0)).1.den⟩ ⟨0, 1⟩ && (eqRt ⟨(getA VK.pt.dflt f ((f.length : Int) - 1).toNat).1.num, (getA VK.pt.dflt f ((f.length : Int) - 1).toNat).1.den⟩ ⟨1, 1⟩ && risR (f.map Pt.x)))) := by
  have hb := of_decide_eq_true h
  unfold mapOk
  rw [h, any_not, eqRt_dec, eqRt_dec, show ((f.length : Int) - 1).toNat = f.length - 1 by omega]
  rfl
theorem any_pt {f : List Pt} (h : (f.any fun x => !ptOk x) = false) {r : Rt} (hr : r ∈ f.map Pt.x) : goodRt r = true := by
  have h2 : f.all ptOk = true := by rw [← any_not, h]; rfl
  obtain ⟨p, hp, rfl⟩ := List.mem_map.1 hr
  exact coord_good (ptOk_iff.1 (List.all_eq_true.1 h2 p hp)).1
theorem ok_impl_isMap : GSpec Tryz.prog s_impl_isMap := by
  refine fn_known tab_ok fol (((((((Known.nil.cons ok_impl_within (by kernel_rfl)).cons ok_lib_ContainsFuncPoint (by kernel_rfl)).cons ok_impl_isMap_1 (by kernel_rfl)).cons ok_impl_zero (by kernel_rfl)).cons ok_impl_oneRat (by kernel_rfl)).cons ok_impl_xsOf (by kernel_rfl)).cons ok_impl_isRising (by kernel_rfl)) (by decide) Tryz.func85 ?_
  rintro ⟨(f : List Pt), ⟨⟩⟩ ⟨hl, _⟩ _
  have hl : f.length ≤ 9223372036854775807 := hl
  repeat' (first | with_reducible apply andAll_cons | with_reducible apply andAll_nil | (with_reducible apply Cf.mk; kernel_rfl) | apply And.intro | intro _ | exact True.intro | apply Lf.mk)
  all_goals (try simp only [Bool.not_eq_true', Bool.not_eq_false', Bool.not_not, decide_eq_true_eq, decide_eq_false_iff_not, beq_iff_eq, bne_iff_ne, beq_eq_false_iff_ne, bne_eq_false_iff_eq, ne_eq, Bool.and_eq_true, Bool.and_eq_false_iff, Bool.or_eq_true, Bool.or_eq_false_iff, Int.toNat_natCast, Nat.zero_add, Int.ofNat_lt, Int.ofNat_le, List.length_cons, List.length_nil, List.drop_zero, List.take_length] at *)
  all_goals first
    | rfl
    | assumption
    | exact (mapOk_no1 (by assumption)).symm
    | exact any_pt (by assumption) (by assumption)
    | (have hb := of_decide_eq_true (by assumption : inB (f.length : Int) 2 12 = true)
       first
         | omega
         | (show Int.toNat 0 < f.length; simp; omega)
         | exact (by simp_all : ∀ {M N A B R : Bool}, M = (!N && (A && (B && R))) → N = true → false = M) (mapOk_eq (f := f) (by assumption)) (by assumption)
         | exact (by simp_all : ∀ {M N A B R : Bool}, M = (!N && (A && (B && R))) → N = false → A = true → (bif A then B else false) = true → (bif (bif A then B else false) then R else false) = M) (mapOk_eq (f := f) (by assumption)) (by assumption) (by assumption) (by assumption)
         | exact (by simp_all : ∀ {M N A B R : Bool}, M = (!N && (A && (B && R))) → N = false → A = true → (bif A then B else false) = false → false = M) (mapOk_eq (f := f) (by assumption)) (by assumption) (by assumption) (by assumption)
         | exact (by simp_all : ∀ {M N A B R : Bool}, M = (!N && (A && (B && R))) → N = false → A = false → false = M) (mapOk_eq (f := f) (by assumption)) (by assumption) (by assumption)
         | exact absurd (by assumption : false = true) (by decide)
         | trace_state)
    | trace_state
theorem bA {C D : Bool} (h : (bif !C then true else !D) = false) : C = true ∧ D = true := by revert h; cases C <;> cases D <;> decide
theorem bB {C D : Bool} (h : (bif !C then true else !D) = true) (h2 : C = true) : D = false := by revert h h2; cases C <;> cases D <;> decide
theorem bC {X P Q : Bool} (h : (bif X then true else bif P then Q else false) = true) (h2 : X = false) : Q = true := by revert h h2; cases X <;> cases P <;> cases Q <;> decide
theorem bD {X P Q : Bool} (h : (bif X then true else bif P then Q else false) = false) (h2 : P = true) : Q = false := by revert h h2; cases X <;> cases P <;> cases Q <;> decide
theorem mapOk_pt1 {f : List Pt} {i : Nat} (h : i < f.length) (h2 : coordRt (getA zP f i).x = false) : false = mapOk f := by
  symm; rw [Bool.eq_false_iff]; intro h3; have := (ptOk_iff.1 (map_pt h3 h)).1; rw [h2] at this; cases this
theorem mapOk_pt2 {f : List Pt} {i : Nat} (h : i < f.length) (h2 : coordRt (getA zP f i).y = false) : false = mapOk f := by
  symm; rw [Bool.eq_false_iff]; intro h3; have := (ptOk_iff.1 (map_pt h3 h)).2; rw [h2] at this; cases this
theorem cmp_ge {a b : Rt} (h : decide (0 ≤ cmpRt a b) = true) : ¬ ltR a b := by
  have := of_decide_eq_true h
  intro h2; have := cmpRt_neg.2 h2; omega
theorem cmp_lt {a b : Rt} (h : decide (0 ≤ cmpRt a b) = false) : ltR a b := by
  have := of_decide_eq_false h
  exact cmpRt_neg.1 (by omega)
theorem pred_nat {i : Nat} (h : (0 : Int) < i) : ((i : Int) - 1).toNat = i - 1 := by omega
theorem mapOk_lt {f : List Pt} {i : Nat} (h : i < f.length) (h0 : (0 : Int) < i) (h2 : ¬ ltR (getA zP f ((i : Int) - 1).toNat).x (getA zP f i).x) : false = mapOk f := by
  symm; rw [Bool.eq_false_iff]; intro h3
  have := (mapOk_iff.1 h3).2.2.2.2 (i - 1) (by omega)
  rw [pred_nat h0] at h2
  rw [show i - 1 + 1 = i by omega] at this
  exact h2 this
theorem cmp_zero {a b : Rt} (ha : goodRt a = true) (hb : goodRt b = true) : (cmpRt a b == 0) = decide (a = b) := by
  rw [Bool.eq_iff_iff, beq_iff_eq, decide_eq_true_eq]
  constructor
  · intro h
    apply good_eq ha hb
    unfold cmpRt sgn at h
    split at h
    · omega
    · split at h <;> omega
  · intro h; subst h; unfold cmpRt sgn; rw [if_neg (by omega), if_neg (by omega)]
theorem mapOk_end {f : List Pt} {a b : Rt} (hb : 2 ≤ f.length ∧ f.length ≤ 12) (g2 : ∀ j, j < f.length → ptOk (getA zP f j) = true) (g3 : ∀ j, j + 1 < f.length → ltR (getA zP f j).x (getA zP f (j + 1)).x)
    (e1 : a = (getA zP f 0).x) (e2 : b = (getA zP f (f.length - 1)).x) : (decide (a = ⟨0, 1⟩) && decide (b = ⟨1, 1⟩)) = mapOk f := by
  subst e1; subst e2
  rw [Bool.eq_iff_iff, mapOk_iff, Bool.and_eq_true, decide_eq_true_eq, decide_eq_true_eq]
  constructor
  · intro ⟨h1, h2⟩
    refine ⟨hb, fun p hp => ?_, h1, h2, g3⟩
    obtain ⟨j, hj, rfl⟩ := List.mem_iff_getElem.1 hp
    rw [← getA_lt zP f j hj]; exact g2 j hj
  · intro ⟨_, _, h1, h2, _⟩; exact ⟨h1, h2⟩
theorem mapOk_fin {f : List Pt} {i : Nat} (hb : 2 ≤ (f.length : Int) ∧ (f.length : Int) ≤ 12) (hi : ¬ i < f.length) (g1 : i ≤ f.length) (g2 : ∀ j, j < i → ptOk (getA zP f j) = true) (g3 : ∀ j, j + 1 < i → ltR (getA zP f j).x (getA zP f (j + 1)).x) :
    (bif cmpRt (getA zP f (Int.toNat 0)).x ⟨0, 1⟩ == 0 then cmpRt (getA zP f ((f.length : Int) - 1).toNat).x ⟨1, 1⟩ == 0 else false) = mapOk f := by
  have e : i = f.length := by omega
  subst e
  have h1 := coord_good (ptOk_iff.1 (g2 0 (by omega))).1
  have h2 := coord_good (ptOk_iff.1 (g2 (f.length - 1) (by omega))).1
  rw [← mapOk_end (f := f) ⟨by omega, by omega⟩ g2 g3 rfl rfl, show Int.toNat 0 = 0 from rfl, show ((f.length : Int) - 1).toNat = f.length - 1 by omega, cmp_zero h1 good_zero, cmp_zero h2 good_one]
  cases decide ((getA zP f 0).x = ⟨0, 1⟩) <;> rfl
theorem mapOk_fin0 {f : List Pt} {i : Nat} (hb : 2 ≤ (f.length : Int) ∧ (f.length : Int) ≤ 12) (hi : ¬ i < f.length) (g1 : i ≤ f.length) (g2 : ∀ j, j < i → ptOk (getA zP f j) = true) (g3 : ∀ j, j + 1 < i → ltR (getA zP f j).x (getA zP f (j + 1)).x)
    (h : ¬ cmpRt (getA zP f (Int.toNat 0)).x ⟨0, 1⟩ = 0) : false = mapOk f := by
  rw [← mapOk_fin hb hi g1 g2 g3, beq_false_of_ne h]; rfl
theorem ok_spec_imGood : GSpec Tryz.prog s_spec_imGood := by
  refine fn_known tab_ok fol ((((Known.nil.cons ok_spec_l1In (by kernel_rfl)).cons ok_spec_imCoord (by kernel_rfl)).cons ok_spec_raCmp (by kernel_rfl)).cons ok_spec_raInt (by kernel_rfl)) (by decide) Tryz.func88 ?_
  rintro ⟨(f : List Pt), ⟨⟩⟩ ⟨hl, _⟩ _
  have hl : f.length ≤ 9223372036854775807 := hl
  repeat' (first | with_reducible apply andAll_cons | with_reducible apply andAll_nil | (with_reducible apply Cf.mk; kernel_rfl) | apply And.intro | intro _ | exact True.intro | apply Lf.mk)
  all_goals (try simp only [Bool.not_eq_true', Bool.not_eq_false', Bool.not_not, decide_eq_true_eq, decide_eq_false_iff_not, beq_iff_eq, bne_iff_ne, beq_eq_false_iff_ne, bne_eq_false_iff_eq, ne_eq, Bool.and_eq_true, Bool.and_eq_false_iff, Bool.or_eq_true, Bool.or_eq_false_iff, Int.toNat_natCast, Nat.zero_add, Int.ofNat_lt, Int.ofNat_le, List.length_cons, List.length_nil, List.drop_zero, List.take_length] at *)
  all_goals first | omega | skip
  · exact (mapOk_no1 (by assumption)).symm
  rename_i h1
  have hb := of_decide_eq_true h1
  refine ⟨Nat, fun i => ⟨[(11, .sc (.num .i64 i))], [100000], []⟩, fun i => i ≤ f.length ∧ (∀ j, j < i → ptOk (getA zP f j) = true) ∧ ∀ j, j + 1 < i → ltR (getA zP f j).x (getA zP f (j + 1)).x, fun i => f.length - i, ⟨0, ⟨Nat.zero_le _, fun j hj => by omega, fun j hj => by omega⟩, ?_⟩, ?_⟩
  · repeat' (first | apply And.intro | exact True.intro | exact Lf.mk (by with_reducible rfl) | apply Lf.mk)
    all_goals rfl
  · rintro i ⟨g1, g2, g3⟩
    repeat' (first | with_reducible apply andAll_cons | with_reducible apply andAll_nil | (with_reducible apply Cf.mk; kernel_rfl) | apply And.intro | intro _ | exact True.intro | apply Lf.mk)
    all_goals (try simp only [Bool.not_eq_true', Bool.not_eq_false', Bool.not_not, decide_eq_true_eq, decide_eq_false_iff_not, beq_iff_eq, bne_iff_ne, beq_eq_false_iff_ne, bne_eq_false_iff_eq, ne_eq, Bool.and_eq_true, Bool.and_eq_false_iff, Bool.or_eq_true, Bool.or_eq_false_iff, Int.toNat_natCast, Nat.zero_add, Int.ofNat_lt, Int.ofNat_le, List.length_cons, List.length_nil, List.drop_zero, List.take_length] at *)
    all_goals first
      | omega
      | contradiction
      | assumption
      | exact good_zero
      | exact good_one
      | exact coord_good (by assumption)
      | exact coord_good (ptOk_iff.1 (g2 _ (by omega))).1
      | exact mapOk_pt1 (by assumption) (by assumption)
      | exact mapOk_pt2 (by assumption) (bB (by assumption) (by assumption))
      | exact mapOk_lt (by assumption) (by assumption) (cmp_ge (bC (by assumption) (by assumption)))
      | (simp_all; done)
      | skip
    · rename_i h2 h3 h4 h5 h6
      refine ⟨i + 1, ⟨by omega, fun j hj => ?_, fun j hj => ?_⟩, by omega, ?_⟩
      · rcases Nat.lt_or_eq_of_le (Nat.le_of_lt_succ hj) with h7 | h7
        · exact g2 j h7
        · subst h7; exact ptOk_iff.2 (bA h4)
      · rcases Nat.lt_or_eq_of_le (Nat.le_of_lt_succ hj) with h7 | h7
        · exact g3 j h7
        · have h8 := cmp_lt (bD h6 (decide_eq_true h5))
          rw [pred_nat h5] at h8
          rw [show j = i - 1 by omega, show i - 1 + 1 = i by omega]
          exact h8
      · repeat' (first | apply And.intro | exact True.intro | exact Lf.mk (by with_reducible rfl) | apply Lf.mk)
        all_goals (rw [Int.natCast_add]; rfl)
    · rename_i h2 h3 h4 h5 h6
      have hi : i = 0 := by omega
      refine ⟨i + 1, ⟨by omega, fun j hj => ?_, fun j hj => by omega⟩, by omega, ?_⟩
      · rw [show j = i by omega]; exact ptOk_iff.2 (bA h4)
      · repeat' (first | apply And.intro | exact True.intro | exact Lf.mk (by with_reducible rfl) | apply Lf.mk)
        all_goals (rw [Int.natCast_add]; rfl)
    · exact mapOk_fin hb (by assumption) g1 g2 g3
    · exact mapOk_fin0 hb (by assumption) g1 g2 g3 (by assumption)
end Go.Vx
namespace Go.Vx
open Go Go.Proofs
set_option maxRecDepth 100000
set_option linter.unusedSimpArgs false
set_option linter.unusedVariables false

noncomputable def s_calc_slope : Sig := ⟨179, [.cell cT .bool, .val .pt, .val .pt], [.val .rat], fun ((c : Bool), (p : Pt), (q : Pt), _) => ⟨[ptOk p = true, ptOk q = true, ltR p.x q.x], (slR p q, ()), (c, ())⟩⟩
theorem ok_calc_slope : GSpec Tryz.prog s_calc_slope := by
  refine fn_known tab_ok fol ((Known.nil.cons ok_calc_sub (by kernel_rfl)).cons ok_calc_div (by kernel_rfl)) (by decide) Tryz.func179 ?_
  rintro ⟨(c : Bool), ⟨⟨(n : Int), (d : Int)⟩, ⟨(m : Int), (e : Int)⟩⟩, ⟨⟨(n' : Int), (d' : Int)⟩, ⟨(m' : Int), (e' : Int)⟩⟩, ⟨⟩⟩ hl ⟨h1, h2, h3, _⟩
  obtain ⟨s1, s2, s3⟩ := slR_ok h1 h2 h3
  have hp := ptOk_iff.1 h1
  have hq := ptOk_iff.1 h2
  obtain ⟨a1, a2, a3, a4⟩ := sub_coord hq.2 hp.2
  obtain ⟨b1, b2, b3, b4⟩ := sub_coord hq.1 hp.1
  have e1 := opR_t a1
  have e2 := opR_t b1
  have e3 := opR_t s1
  have g1 := coord_good hp.1
  have g2 := coord_good hp.2
  have g3 := coord_good hq.1
  have g4 := coord_good hq.2
  dsimp only at *
  repeat' (first | with_reducible apply andAll_cons | with_reducible apply andAll_nil | (with_reducible apply Cf.mk; kernel_rfl) | apply And.intro | intro _ | exact True.intro | apply Lf.mk)
  all_goals (try simp only [e1, e2, e3, a1, b1, s1, Bool.not_true, Bool.or_false] at *)
  all_goals first | assumption | rfl
noncomputable def s_spec_imSlope : Sig := ⟨220, [.val .pt, .val .pt], [.val .rat], fun ((p : Pt), (q : Pt), _) => ⟨[ptOk p = true, ptOk q = true, ltR p.x q.x], (slR p q, ()), ()⟩⟩
theorem ok_spec_imSlope : GSpec Tryz.prog s_spec_imSlope := by
  refine fn_known tab_ok fol ((Known.nil.cons ok_spec_raSub (by kernel_rfl)).cons ok_spec_raDiv (by kernel_rfl)) (by decide) Tryz.func220 ?_
  rintro ⟨⟨⟨(n : Int), (d : Int)⟩, ⟨(m : Int), (e : Int)⟩⟩, ⟨⟨(n' : Int), (d' : Int)⟩, ⟨(m' : Int), (e' : Int)⟩⟩, ⟨⟩⟩ hl ⟨h1, h2, h3, _⟩
  have hp := ptOk_iff.1 h1
  have hq := ptOk_iff.1 h2
  obtain ⟨a1, a2, a3, a4⟩ := sub_coord hq.2 hp.2
  obtain ⟨b1, b2, b3, b4⟩ := sub_coord hq.1 hp.1
  have g1 := ok_good (coord_good hp.1)
  have g2 := ok_good (coord_good hp.2)
  have g3 := ok_good (coord_good hq.1)
  have g4 := ok_good (coord_good hq.2)
  have g5 := ok_good a2
  have g6 := ok_good b2
  dsimp only at *
  repeat' (first | with_reducible apply andAll_cons | with_reducible apply andAll_nil | (with_reducible apply Cf.mk; kernel_rfl) | apply And.intro | intro _ | exact True.intro | apply Lf.mk)
  all_goals first | assumption | rfl
noncomputable def s_calc_line : Sig := ⟨178, [.cell cT .bool, .val .pt, .val .rat, .val .rat], [.val .rat], fun ((c : Bool), (p : Pt), (s : Rt), (x : Rt), _) => ⟨[ptOk p = true, goodRt s = true, goodRt x = true], (lineO p s x, ()), (c || !(lineR p s x).2, ())⟩⟩
theorem ok_calc_line : GSpec Tryz.prog s_calc_line := by
  refine fn_known tab_ok fol (((Known.nil.cons ok_calc_sub (by kernel_rfl)).cons ok_calc_mul (by kernel_rfl)).cons ok_calc_add (by kernel_rfl)) (by decide) Tryz.func178 ?_
  rintro ⟨(c : Bool), ⟨⟨(n : Int), (d : Int)⟩, ⟨(m : Int), (e : Int)⟩⟩, ⟨(n' : Int), (d' : Int)⟩, ⟨(m' : Int), (e' : Int)⟩, ⟨⟩⟩ hl ⟨h1, h2, h3, _⟩
  have hp := ptOk_iff.1 h1
  have g1 := coord_good hp.1
  have g2 := coord_good hp.2
  have hf := line_flag c ⟨⟨n, d⟩, ⟨m, e⟩⟩ ⟨n', d'⟩ ⟨m', e'⟩
  dsimp only at *
  repeat' (first | with_reducible apply andAll_cons | with_reducible apply andAll_nil | (with_reducible apply Cf.mk; kernel_rfl) | apply And.intro | intro _ | exact True.intro | apply Lf.mk)
  all_goals first | assumption | exact opR_good | exact hf | rfl
noncomputable def s_impl_slopes : Sig := ⟨198, [.list .pt], [.list 26 .rat], fun ((f : List Pt), _) => ⟨[mapOk f = true], (slL f (f.length - 1), ()), ()⟩⟩
theorem ok_impl_slopes : GSpec Tryz.prog s_impl_slopes := by
  refine fn_known tab_ok fol (Known.nil.cons ok_calc_slope (by kernel_rfl)) (by decide) Tryz.func198 ?_
  rintro ⟨(f : List Pt), ⟨⟩⟩ ⟨hl, _⟩ ⟨h1, _⟩
  have h2 := mapOk_iff.1 h1
  refine ⟨Nat, fun i => ⟨[(5, .sc (.num .i64 ((i : Int) + 1))), (4, .sc (.own 7777777))], [100000], [(7777777, .row 26 .rat (slL f i)), (3, .box cT [.bool false])]⟩, fun i => i + 1 ≤ f.length, fun i => f.length - i, ⟨0, by omega, ?_⟩, ?_⟩
  · repeat' (first | apply And.intro | exact True.intro | exact Lf.mk (by with_reducible rfl) | apply Lf.mk)
    all_goals first | rfl | simp
  · intro i g1
    have hm := slL_length f i
    repeat' (first | with_reducible apply andAll_cons | with_reducible apply andAll_nil | (with_reducible apply Cf.mk; kernel_rfl) | apply And.intro | intro _ | exact True.intro | apply Lf.mk)
    all_goals simp only [hm] at *
    all_goals (try simp only [Bool.not_eq_true', Bool.not_eq_false', Bool.not_not, decide_eq_true_eq, decide_eq_false_iff_not, beq_iff_eq, bne_iff_ne, beq_eq_false_iff_ne, bne_eq_false_iff_eq, ne_eq, Bool.and_eq_true, Bool.and_eq_false_iff, Bool.or_eq_true, Bool.or_eq_false_iff, Int.toNat_natCast, Nat.zero_add, Int.ofNat_lt, Int.ofNat_le, List.length_cons, List.length_nil, List.drop_zero, List.take_length] at *)
    all_goals (try simp only [show ((i : Int) + 1 - 1).toNat = i by omega, show ((i : Int) + 1).toNat = i + 1 by omega] at *)
    all_goals first
      | omega
      | exact map_pt h1 (by omega)
      | exact h2.2.2.2.2 i (by omega)
      | (show (_ + 1) * 16 ≤ 140737488355328; omega)
      | (rw [show i = f.length - 1 by omega]; done)
      | skip
    refine ⟨i + 1, by omega, by omega, ?_⟩
    repeat' (first | apply And.intro | exact True.intro | exact Lf.mk (by with_reducible rfl) | apply Lf.mk)
    all_goals first | rfl | (rw [Int.natCast_add]; rfl) | exact slL_succ f i
noncomputable def s_impl_pieceAt_1 : Sig := ⟨226, [.val .pt, .cell 26 .rat], [.val .bool], fun ((p : Pt), (x : Rt), _) => ⟨[goodRt p.x = true, goodRt x = true], (!lessRt p.x x, ()), (x, ())⟩⟩
theorem ok_impl_pieceAt_1 : GSpec Tryz.prog s_impl_pieceAt_1 := by
  refine fn_known tab_ok fol (Known.nil.cons ok_impl_less (by kernel_rfl)) (by decide) Tryz.func226 ?_
  rintro ⟨⟨⟨(n : Int), (d : Int)⟩, ⟨(m : Int), (e : Int)⟩⟩, ⟨(n' : Int), (d' : Int)⟩, ⟨⟩⟩ hl ⟨h1, h2, _⟩
  repeat' (first | with_reducible apply andAll_cons | with_reducible apply andAll_nil | (with_reducible apply Cf.mk; kernel_rfl) | apply And.intro | intro _ | exact True.intro | apply Lf.mk)
  all_goals first | assumption | rfl
noncomputable def s_impl_pieceAt : Sig := ⟨177, [.list .pt, .val .rat], [.val NI], fun ((f : List Pt), (x : Rt), _) => ⟨[∀ p ∈ f, goodRt p.x = true, goodRt x = true], ((pcN f x : Int), ()), ()⟩⟩
theorem idx_lo {α : Type} {p : α → Bool} {l : List α} : -9223372036854775808 ≤ idxF p l - 1 := by have := idxF_rng p l; omega
theorem idx_hi {α : Type} {p : α → Bool} {l : List α} (hl : l.length ≤ 9223372036854775807) : idxF p l - 1 ≤ 9223372036854775807 := by have := idxF_rng p l; omega
theorem if_toNat (a : Int) : (if a < 0 then 0 else a) = (a.toNat : Int) := by split <;> omega
theorem ok_impl_pieceAt : GSpec Tryz.prog s_impl_pieceAt := by
  refine fn_known tab_ok fol ((Known.nil.cons ok_lib_IndexFuncPoint (by kernel_rfl)).cons ok_impl_pieceAt_1 (by kernel_rfl)) (by decide) Tryz.func177 ?_
  rintro ⟨(f : List Pt), ⟨(n : Int), (d : Int)⟩, ⟨⟩⟩ ⟨hl, _⟩ ⟨h1, h2, _⟩
  have hl : f.length ≤ 9223372036854775807 := hl
  repeat' (first | with_reducible apply andAll_cons | with_reducible apply andAll_nil | (with_reducible apply Cf.mk; kernel_rfl) | apply And.intro | intro _ | exact True.intro | apply Lf.mk)
  all_goals (try simp only [Bool.not_eq_true', Bool.not_eq_false', Bool.not_not, decide_eq_true_eq, decide_eq_false_iff_not, beq_iff_eq, bne_iff_ne, beq_eq_false_iff_ne, bne_eq_false_iff_eq, ne_eq, Bool.and_eq_true, Bool.and_eq_false_iff, Bool.or_eq_true, Bool.or_eq_false_iff, Int.toNat_natCast, Nat.zero_add, Int.ofNat_lt, Int.ofNat_le, List.length_cons, List.length_nil, List.drop_zero, List.take_length] at *)
  all_goals first | exact h1 _ (by assumption) | exact h2 | rfl | exact idx_lo | exact idx_hi hl | exact if_toNat _
noncomputable def s_spec_imPiece : Sig := ⟨167, [.list .pt, .val .rat], [.val NI], fun ((f : List Pt), (x : Rt), _) => ⟨[mapOk f = true, unitRt x = true], ((pcN f x : Int), ()), ()⟩⟩
theorem bE {P Q : Bool} (h : (bif P then Q else false) = true) : P = true ∧ Q = true := by revert h; cases P <;> cases Q <;> decide
theorem bF {P Q : Bool} (h : (bif P then Q else false) = false) (h2 : P = true) : Q = false := by revert h h2; cases P <;> cases Q <;> decide
theorem succ_nat (i : Nat) : ((i : Int) + 1).toNat = i + 1 := by omega
theorem cmp_lt' {a b : Rt} (h : decide (cmpRt a b < 0) = true) : ltR a b := cmpRt_neg.1 (of_decide_eq_true h)
theorem cmp_ge' {a b : Rt} (h : decide (cmpRt a b < 0) = false) : ¬ ltR a b := fun h2 => of_decide_eq_false h (cmpRt_neg.2 h2)
theorem ok_spec_imPiece : GSpec Tryz.prog s_spec_imPiece := by
  refine fn_known tab_ok fol (Known.nil.cons ok_spec_raCmp (by kernel_rfl)) (by decide) Tryz.func167 ?_
  rintro ⟨(f : List Pt), ⟨(n : Int), (d : Int)⟩, ⟨⟩⟩ ⟨hl, _⟩ ⟨h1, h2, _⟩
  have h3 := mapOk_iff.1 h1
  refine ⟨Nat, fun i => ⟨[(5, .sc (.num .i64 i))], [100000, 3], []⟩, fun i => i + 1 < f.length ∧ ∀ j, 0 < j → j ≤ i → ltR (getA zP f j).x ⟨n, d⟩, fun i => f.length - i, ⟨0, ⟨by omega, fun j hj hj2 => by omega⟩, ?_⟩, ?_⟩
  · repeat' (first | apply And.intro | exact True.intro | exact Lf.mk (by with_reducible rfl) | apply Lf.mk)
    all_goals rfl
  · rintro i ⟨g1, g2⟩
    repeat' (first | with_reducible apply andAll_cons | with_reducible apply andAll_nil | (with_reducible apply Cf.mk; kernel_rfl) | apply And.intro | intro _ | exact True.intro | apply Lf.mk)
    all_goals (try simp only [Bool.not_eq_true', Bool.not_eq_false', Bool.not_not, decide_eq_true_eq, decide_eq_false_iff_not, beq_iff_eq, bne_iff_ne, beq_eq_false_iff_ne, bne_eq_false_iff_eq, ne_eq, Bool.and_eq_true, Bool.and_eq_false_iff, Bool.or_eq_true, Bool.or_eq_false_iff, Int.toNat_natCast, Nat.zero_add, Int.ofNat_lt, Int.ofNat_le, List.length_cons, List.length_nil, List.drop_zero, List.take_length] at *)
    all_goals first | omega | contradiction | exact coord_good (ptOk_iff.1 (map_pt h1 (i := ((i : Int) + 1).toNat) (by omega))).1 | exact unit_good h2 | skip
    · rename_i h4 h5
      have h6 := cmp_lt' (bE h5).2
      rw [succ_nat] at h6
      refine ⟨i + 1, ⟨by omega, fun j hj hj2 => ?_⟩, by omega, ?_⟩
      · rcases Nat.lt_or_eq_of_le hj2 with h7 | h7
        · exact g2 j hj (by omega)
        · rw [h7]; exact h6
      · repeat' (first | apply And.intro | exact True.intro | exact Lf.mk (by with_reducible rfl) | apply Lf.mk)
        all_goals (rw [Int.natCast_add]; rfl)
    · rename_i h4 h5
      have h6 := cmp_ge' (bF h5 (decide_eq_true h4))
      rw [succ_nat] at h6
      exact congrArg Int.ofNat (pc_uniq h1 h2 g2 (fun h => h6 h.2) g1)
    · rename_i h4
      exact congrArg Int.ofNat (pc_uniq h1 h2 g2 (fun h => by omega) g1)
noncomputable def s_calc_value : Sig := ⟨104, [.cell cT .bool, .list .pt, .val .rat], [.val .rat], fun ((c : Bool), (f : List Pt), (x : Rt), _) => ⟨[mapOk f = true, unitRt x = true], (vO f x, ()), (c || !(vR f x).2, ())⟩⟩
theorem ok_calc_value : GSpec Tryz.prog s_calc_value := by
  refine fn_known tab_ok fol (((Known.nil.cons ok_impl_pieceAt (by kernel_rfl)).cons ok_calc_slope (by kernel_rfl)).cons ok_calc_line (by kernel_rfl)) (by decide) Tryz.func104 ?_
  rintro ⟨(c : Bool), (f : List Pt), ⟨(n : Int), (d : Int)⟩, ⟨⟩⟩ ⟨_, hl, _⟩ ⟨h1, h2, _⟩
  obtain ⟨p1, p2, p3, p4⟩ := pc_spec h1 h2
  obtain ⟨m1, m2, m3, m4, m5⟩ := mapOk_iff.1 h1
  have a1 := map_pt h1 (i := pcN f ⟨n, d⟩) (by omega)
  have a2 := map_pt h1 (i := pcN f ⟨n, d⟩ + 1) (by omega)
  obtain ⟨s1, s2, s3⟩ := slR_ok a1 a2 (m5 _ p1)
  repeat' (first | with_reducible apply andAll_cons | with_reducible apply andAll_nil | (with_reducible apply Cf.mk; kernel_rfl) | apply And.intro | intro _ | exact True.intro | apply Lf.mk)
  all_goals (try simp only [Bool.not_eq_true', Bool.not_eq_false', Bool.not_not, decide_eq_true_eq, decide_eq_false_iff_not, beq_iff_eq, bne_iff_ne, beq_eq_false_iff_ne, bne_eq_false_iff_eq, ne_eq, Bool.and_eq_true, Bool.and_eq_false_iff, Bool.or_eq_true, Bool.or_eq_false_iff, Int.toNat_natCast, Nat.zero_add, Int.ofNat_lt, Int.ofNat_le, List.length_cons, List.length_nil, List.drop_zero, List.take_length] at *)
  all_goals (try simp only [Int.toNat_natCast, succ_nat] at *)
  all_goals first | omega | assumption | exact coord_good (ptOk_iff.1 (m2 _ (by assumption))).1 | exact unit_good h2 | exact m5 _ p1 | (unfold vO; rfl) | (unfold vR; rfl) | rfl | skip
noncomputable def s_spec_imOn : Sig := ⟨168, [.val .pt, .val .pt, .val .rat], [.val .rat, .val .bool], fun ((p : Pt), (q : Pt), (x : Rt), _) => ⟨[ptOk p = true, ptOk q = true, ltR p.x q.x, goodRt x = true], ((lineR p (slR p q) x).1, (lineR p (slR p q) x).2, ()), ()⟩⟩
theorem mulRt_comm (a b : Rt) : mulRt a b = mulRt b a := by unfold mulRt; rw [Int.mul_comm a.num, Int.mul_comm a.den]
theorem on_bad {p : Pt} {s x : Rt} (h1 : (subRt x p.x).2 = true) (h : (mulRt (subRt x p.x).1 s).2 = false) : (⟨0, 0⟩, false) = lineR p s x := by
  rw [mulRt_comm] at h
  rw [lineR_2 h1 h]
theorem on_ok {p : Pt} {s x : Rt} (h1 : (subRt x p.x).2 = true) (h : (mulRt (subRt x p.x).1 s).2 = true) : addRt p.y (mulRt (subRt x p.x).1 s).1 = lineR p s x := by
  rw [mulRt_comm] at h ⊢
  rw [lineR_3 h1 h]
theorem ok_spec_imOn : GSpec Tryz.prog s_spec_imOn := by
  refine fn_known tab_ok fol ((((Known.nil.cons ok_spec_raSub (by kernel_rfl)).cons ok_spec_imSlope (by kernel_rfl)).cons ok_spec_raMul (by kernel_rfl)).cons ok_spec_raAdd (by kernel_rfl)) (by decide) Tryz.func168 ?_
  rintro ⟨⟨⟨(n : Int), (d : Int)⟩, ⟨(m : Int), (e : Int)⟩⟩, ⟨⟨(n' : Int), (d' : Int)⟩, ⟨(m' : Int), (e' : Int)⟩⟩, ⟨(n2 : Int), (d2 : Int)⟩, ⟨⟩⟩ hl ⟨h1, h2, h3, h4, _⟩
  obtain ⟨s1, s2, s3⟩ := slR_ok h1 h2 h3
  have hp := ptOk_iff.1 h1
  have g1 := ok_good (coord_good hp.1)
  have g2 := ok_good (coord_good hp.2)
  have g3 := ok_good h4
  have g4 := ok_good s2
  dsimp only at *
  repeat' (first | with_reducible apply andAll_cons | with_reducible apply andAll_nil | (with_reducible apply Cf.mk; kernel_rfl) | apply And.intro | intro _ | exact True.intro | apply Lf.mk)
  all_goals (try simp only [Bool.not_eq_true', Bool.not_eq_false', Bool.not_not, decide_eq_true_eq, decide_eq_false_iff_not, beq_iff_eq, bne_iff_ne, beq_eq_false_iff_ne, bne_eq_false_iff_eq, ne_eq, Bool.and_eq_true, Bool.and_eq_false_iff, Bool.or_eq_true, Bool.or_eq_false_iff, Int.toNat_natCast, Nat.zero_add, Int.ofNat_lt, Int.ofNat_le, List.length_cons, List.length_nil, List.drop_zero, List.take_length] at *)
  all_goals first
    | assumption
    | contradiction
    | exact congrArg Prod.fst (on_bad (p := ⟨⟨n, d⟩, ⟨m, e⟩⟩) (x := ⟨n2, d2⟩) (by assumption) (by assumption))
    | exact congrArg Prod.snd (on_bad (p := ⟨⟨n, d⟩, ⟨m, e⟩⟩) (x := ⟨n2, d2⟩) (by assumption) (by assumption))
    | exact congrArg Prod.fst (on_ok (p := ⟨⟨n, d⟩, ⟨m, e⟩⟩) (x := ⟨n2, d2⟩) (by assumption) (by assumption))
    | exact congrArg Prod.snd (on_ok (p := ⟨⟨n, d⟩, ⟨m, e⟩⟩) (x := ⟨n2, d2⟩) (by assumption) (by assumption))
    | exact congrArg Prod.fst (lineR_1 (p := ⟨⟨n, d⟩, ⟨m, e⟩⟩) (x := ⟨n2, d2⟩) (by assumption)).symm
    | exact congrArg Prod.snd (lineR_1 (p := ⟨⟨n, d⟩, ⟨m, e⟩⟩) (x := ⟨n2, d2⟩) (by assumption)).symm
    | exact lowRt_ok
    | skip
noncomputable def s_spec_imAt : Sig := ⟨95, [.list .pt, .val .rat], [.val .rat, .val .bool], fun ((f : List Pt), (x : Rt), _) => ⟨[mapOk f = true, unitRt x = true], ((vR f x).1, (vR f x).2, ()), ()⟩⟩
theorem ok_spec_imAt : GSpec Tryz.prog s_spec_imAt := by
  refine fn_known tab_ok fol ((Known.nil.cons ok_spec_imPiece (by kernel_rfl)).cons ok_spec_imOn (by kernel_rfl)) (by decide) Tryz.func95 ?_
  rintro ⟨(f : List Pt), ⟨(n : Int), (d : Int)⟩, ⟨⟩⟩ ⟨hl, _⟩ ⟨h1, h2, _⟩
  obtain ⟨p1, p2, p3, p4⟩ := pc_spec h1 h2
  obtain ⟨m1, m2, m3, m4, m5⟩ := mapOk_iff.1 h1
  have a1 := map_pt h1 (i := pcN f ⟨n, d⟩) (by omega)
  have a2 := map_pt h1 (i := pcN f ⟨n, d⟩ + 1) (by omega)
  repeat' (first | with_reducible apply andAll_cons | with_reducible apply andAll_nil | (with_reducible apply Cf.mk; kernel_rfl) | apply And.intro | intro _ | exact True.intro | apply Lf.mk)
  all_goals (try simp only [Bool.not_eq_true', Bool.not_eq_false', Bool.not_not, decide_eq_true_eq, decide_eq_false_iff_not, beq_iff_eq, bne_iff_ne, beq_eq_false_iff_ne, bne_eq_false_iff_eq, ne_eq, Bool.and_eq_true, Bool.and_eq_false_iff, Bool.or_eq_true, Bool.or_eq_false_iff, Int.toNat_natCast, Nat.zero_add, Int.ofNat_lt, Int.ofNat_le, List.length_cons, List.length_nil, List.drop_zero, List.take_length] at *)
  all_goals (try simp only [Int.toNat_natCast, succ_nat] at *)
  all_goals first | omega | assumption | exact coord_good (ptOk_iff.1 (m2 _ (by assumption))).1 | exact unit_good h2 | exact m5 _ p1 | (unfold vO; rfl) | (unfold vR; rfl) | rfl | skip
end Go.Vx
namespace Go.Vx
open Go Go.Proofs
set_option maxRecDepth 100000
set_option linter.unusedSimpArgs false
set_option linter.unusedVariables false

noncomputable def s_impl_lesser : Sig := ⟨196, [.val .rat, .val .rat], [.val .rat], fun ((a : Rt), (b : Rt), _) => ⟨[goodRt a = true, goodRt b = true], (lsR a b, ()), ()⟩⟩
noncomputable def s_impl_greater : Sig := ⟨195, [.val .rat, .val .rat], [.val .rat], fun ((a : Rt), (b : Rt), _) => ⟨[goodRt a = true, goodRt b = true], (grR a b, ()), ()⟩⟩
noncomputable def s_spec_ivGreater : Sig := ⟨127, [.val .rat, .val .rat], [.val .rat], fun ((a : Rt), (b : Rt), _) => ⟨[goodRt a = true, goodRt b = true], (grR a b, ()), ()⟩⟩
noncomputable def s_spec_ivLess : Sig := ⟨128, [.val .rat, .val .rat], [.val .rat], fun ((a : Rt), (b : Rt), _) => ⟨[goodRt a = true, goodRt b = true], (lsR a b, ()), ()⟩⟩
theorem less_t {a b : Rt} (h : lessRt a b = true) : ltR a b := of_decide_eq_true h
theorem less_f {a b : Rt} (h : lessRt a b = false) : ¬ ltR a b := of_decide_eq_false h
theorem ok_impl_lesser : GSpec Tryz.prog s_impl_lesser := by
  refine fn_known tab_ok fol (Known.nil.cons ok_impl_less (by kernel_rfl)) (by decide) Tryz.func196 ?_
  rintro ⟨⟨(n : Int), (d : Int)⟩, ⟨(m : Int), (e : Int)⟩, ⟨⟩⟩ - ⟨h1, h2, _⟩
  repeat' (first | with_reducible apply andAll_cons | with_reducible apply andAll_nil | (with_reducible apply Cf.mk; kernel_rfl) | apply And.intro | intro _ | exact True.intro | apply Lf.mk)
  all_goals (try simp only [Bool.not_eq_true', Bool.not_eq_false', Bool.not_not, decide_eq_true_eq, decide_eq_false_iff_not, beq_iff_eq, bne_iff_ne, beq_eq_false_iff_ne, bne_eq_false_iff_eq, ne_eq, Bool.and_eq_true, Bool.and_eq_false_iff, Bool.or_eq_true, Bool.or_eq_false_iff, Int.toNat_natCast, Nat.zero_add, Int.ofNat_lt, Int.ofNat_le, List.length_cons, List.length_nil, List.drop_zero, List.take_length] at *)
  all_goals first | assumption | exact (lsR_alt2 (less_t (by assumption))).symm | exact (lsR_alt h1 h2 (less_f (by assumption))).symm
theorem ok_impl_greater : GSpec Tryz.prog s_impl_greater := by
  refine fn_known tab_ok fol (Known.nil.cons ok_impl_less (by kernel_rfl)) (by decide) Tryz.func195 ?_
  rintro ⟨⟨(n : Int), (d : Int)⟩, ⟨(m : Int), (e : Int)⟩, ⟨⟩⟩ - ⟨h1, h2, _⟩
  repeat' (first | with_reducible apply andAll_cons | with_reducible apply andAll_nil | (with_reducible apply Cf.mk; kernel_rfl) | apply And.intro | intro _ | exact True.intro | apply Lf.mk)
  all_goals (try simp only [Bool.not_eq_true', Bool.not_eq_false', Bool.not_not, decide_eq_true_eq, decide_eq_false_iff_not, beq_iff_eq, bne_iff_ne, beq_eq_false_iff_ne, bne_eq_false_iff_eq, ne_eq, Bool.and_eq_true, Bool.and_eq_false_iff, Bool.or_eq_true, Bool.or_eq_false_iff, Int.toNat_natCast, Nat.zero_add, Int.ofNat_lt, Int.ofNat_le, List.length_cons, List.length_nil, List.drop_zero, List.take_length] at *)
  all_goals first | assumption | exact (grR_t (less_t (by assumption))).symm | exact (grR_f (less_f (by assumption))).symm
theorem ok_spec_ivGreater : GSpec Tryz.prog s_spec_ivGreater := by
  refine fn_known tab_ok fol (Known.nil.cons ok_spec_raCmp (by kernel_rfl)) (by decide) Tryz.func127 ?_
  rintro ⟨⟨(n : Int), (d : Int)⟩, ⟨(m : Int), (e : Int)⟩, ⟨⟩⟩ - ⟨h1, h2, _⟩
  repeat' (first | with_reducible apply andAll_cons | with_reducible apply andAll_nil | (with_reducible apply Cf.mk; kernel_rfl) | apply And.intro | intro _ | exact True.intro | apply Lf.mk)
  all_goals (try simp only [Bool.not_eq_true', Bool.not_eq_false', Bool.not_not, decide_eq_true_eq, decide_eq_false_iff_not, beq_iff_eq, bne_iff_ne, beq_eq_false_iff_ne, bne_eq_false_iff_eq, ne_eq, Bool.and_eq_true, Bool.and_eq_false_iff, Bool.or_eq_true, Bool.or_eq_false_iff, Int.toNat_natCast, Nat.zero_add, Int.ofNat_lt, Int.ofNat_le, List.length_cons, List.length_nil, List.drop_zero, List.take_length] at *)
  all_goals first | assumption | exact (grR_t (cmpRt_neg.1 (by assumption))).symm | exact (grR_f (fun h => (by assumption : ¬ cmpRt _ _ < 0) (cmpRt_neg.2 h))).symm
theorem ok_spec_ivLess : GSpec Tryz.prog s_spec_ivLess := by
  refine fn_known tab_ok fol (Known.nil.cons ok_spec_raCmp (by kernel_rfl)) (by decide) Tryz.func128 ?_
  rintro ⟨⟨(n : Int), (d : Int)⟩, ⟨(m : Int), (e : Int)⟩, ⟨⟩⟩ - ⟨h1, h2, _⟩
  repeat' (first | with_reducible apply andAll_cons | with_reducible apply andAll_nil | (with_reducible apply Cf.mk; kernel_rfl) | apply And.intro | intro _ | exact True.intro | apply Lf.mk)
  all_goals (try simp only [Bool.not_eq_true', Bool.not_eq_false', Bool.not_not, decide_eq_true_eq, decide_eq_false_iff_not, beq_iff_eq, bne_iff_ne, beq_eq_false_iff_ne, bne_eq_false_iff_eq, ne_eq, Bool.and_eq_true, Bool.and_eq_false_iff, Bool.or_eq_true, Bool.or_eq_false_iff, Int.toNat_natCast, Nat.zero_add, Int.ofNat_lt, Int.ofNat_le, List.length_cons, List.length_nil, List.drop_zero, List.take_length] at *)
  all_goals first | assumption | exact (lsR_t (cmpRt_neg.1 (by assumption))).symm | exact (lsR_f (fun h => (by assumption : ¬ cmpRt _ _ < 0) (cmpRt_neg.2 h))).symm
theorem cmp_lt_less (a b : Rt) : decide (cmpRt a b < 0) = lessRt a b := decide_eq_decide.2 cmpRt_neg
theorem cmpRt_pos {a b : Rt} : 0 < cmpRt a b ↔ ltR b a := by
  have h := cmpRt_swap a b
  have h2 := @cmpRt_neg b a
  constructor
  · intro h3; exact h2.1 (by omega)
  · intro h3; have := h2.2 h3; omega
theorem cmp_le_iff {a b : Rt} : cmpRt a b ≤ 0 ↔ lessRt b a = false := by
  have h := @cmpRt_pos a b
  constructor
  · intro h2; exact decide_eq_false (fun h3 => by have := h.2 h3; omega)
  · intro h2; have h3 : ¬ ltR b a := of_decide_eq_false h2
    rcases Int.lt_or_le 0 (cmpRt a b) with h4 | h4
    · exact (h3 (h.1 h4)).elim
    · exact h4
theorem cmp_le_less (a b : Rt) : decide (cmpRt a b ≤ 0) = !lessRt b a := by
  rw [Bool.eq_iff_iff, decide_eq_true_eq, cmp_le_iff]; simp
theorem cmp_gt_iff {a b : Rt} : 0 < cmpRt a b ↔ lessRt b a = true := by
  rw [cmpRt_pos]; exact ⟨fun h => decide_eq_true h, fun h => of_decide_eq_true h⟩
theorem cmp_lt_iff {a b : Rt} : cmpRt a b < 0 ↔ lessRt a b = true := by
  rw [cmpRt_neg]; exact ⟨fun h => decide_eq_true h, fun h => of_decide_eq_true h⟩
theorem less_iff {a b : Rt} : lessRt a b = true ↔ ltR a b := ⟨fun h => of_decide_eq_true h, fun h => decide_eq_true h⟩
theorem all2 {α : Type} {p : α → Bool} {a b : α} (h : [a, b].all p = true) : p a = true ∧ p b = true := by simpa using h
noncomputable def s_impl_isInterval : Sig := ⟨76, [.val .iv], [.val .bool], fun ((i : Iv), _) => ⟨[], (ivOk i, ()), ()⟩⟩
noncomputable def s_spec_ivGood : Sig := ⟨80, [.val .iv], [.val .bool], fun ((i : Iv), _) => ⟨[], (ivOk i, ()), ()⟩⟩
theorem ok_impl_isInterval : GSpec Tryz.prog s_impl_isInterval := by
  refine fn_known tab_ok fol ((Known.nil.cons ok_impl_areUnits (by kernel_rfl)).cons ok_impl_less (by kernel_rfl)) (by decide) Tryz.func76 ?_
  rintro ⟨⟨⟨(n : Int), (d : Int)⟩, ⟨(m : Int), (e : Int)⟩⟩, ⟨⟩⟩ - _
  repeat' (first | with_reducible apply andAll_cons | with_reducible apply andAll_nil | (with_reducible apply Cf.mk; kernel_rfl) | apply And.intro | intro _ | exact True.intro | apply Lf.mk)
  all_goals (try simp only [Bool.not_eq_true', Bool.not_eq_false', Bool.not_not, decide_eq_true_eq, decide_eq_false_iff_not, beq_iff_eq, bne_iff_ne, beq_eq_false_iff_ne, bne_eq_false_iff_eq, ne_eq, Bool.and_eq_true, Bool.and_eq_false_iff, Bool.or_eq_true, Bool.or_eq_false_iff, Int.toNat_natCast, Nat.zero_add, Int.ofNat_lt, Int.ofNat_le, List.length_cons, List.length_nil, List.drop_zero, List.take_length] at *)
  all_goals first | exact unit_good (by assumption) | exact unit_good (all2 (by assumption)).1 | exact unit_good (all2 (by assumption)).2 | (simp_all [ivOk, cmp_lt_less, cmp_le_less, cmp_le_iff, cmp_lt_iff]; done) | skip
theorem ok_spec_ivGood : GSpec Tryz.prog s_spec_ivGood := by
  refine fn_known tab_ok fol ((Known.nil.cons ok_spec_raUnit (by kernel_rfl)).cons ok_spec_raCmp (by kernel_rfl)) (by decide) Tryz.func80 ?_
  rintro ⟨⟨⟨(n : Int), (d : Int)⟩, ⟨(m : Int), (e : Int)⟩⟩, ⟨⟩⟩ - _
  repeat' (first | with_reducible apply andAll_cons | with_reducible apply andAll_nil | (with_reducible apply Cf.mk; kernel_rfl) | apply And.intro | intro _ | exact True.intro | apply Lf.mk)
  all_goals (try simp only [Bool.not_eq_true', Bool.not_eq_false', Bool.not_not, decide_eq_true_eq, decide_eq_false_iff_not, beq_iff_eq, bne_iff_ne, beq_eq_false_iff_ne, bne_eq_false_iff_eq, ne_eq, Bool.and_eq_true, Bool.and_eq_false_iff, Bool.or_eq_true, Bool.or_eq_false_iff, Int.toNat_natCast, Nat.zero_add, Int.ofNat_lt, Int.ofNat_le, List.length_cons, List.length_nil, List.drop_zero, List.take_length] at *)
  all_goals first | exact unit_good (by assumption) | (simp_all [ivOk, cmp_lt_less, cmp_le_less, cmp_le_iff, cmp_lt_iff]; done) | skip
noncomputable def hasR (i : Iv) (x : Rt) : Bool := !lessRt x i.a && !lessRt i.b x
noncomputable def s_impl_isIn : Sig := ⟨121, [.val .iv, .val .rat], [.val .bool], fun ((i : Iv), (x : Rt), _) => ⟨[ivOk i = true, goodRt x = true], (hasR i x, ()), ()⟩⟩
theorem ok_impl_isIn : GSpec Tryz.prog s_impl_isIn := by
  refine fn_known tab_ok fol (Known.nil.cons ok_impl_less (by kernel_rfl)) (by decide) Tryz.func121 ?_
  rintro ⟨⟨⟨(n : Int), (d : Int)⟩, ⟨(m : Int), (e : Int)⟩⟩, ⟨(n' : Int), (d' : Int)⟩, ⟨⟩⟩ - ⟨h1, h2, _⟩
  obtain ⟨u1, u2, u3⟩ := ivOk_iff.1 h1
  repeat' (first | with_reducible apply andAll_cons | with_reducible apply andAll_nil | (with_reducible apply Cf.mk; kernel_rfl) | apply And.intro | intro _ | exact True.intro | apply Lf.mk)
  all_goals (try simp only [Bool.not_eq_true', Bool.not_eq_false', Bool.not_not, decide_eq_true_eq, decide_eq_false_iff_not, beq_iff_eq, bne_iff_ne, beq_eq_false_iff_ne, bne_eq_false_iff_eq, ne_eq, Bool.and_eq_true, Bool.and_eq_false_iff, Bool.or_eq_true, Bool.or_eq_false_iff, Int.toNat_natCast, Nat.zero_add, Int.ofNat_lt, Int.ofNat_le, List.length_cons, List.length_nil, List.drop_zero, List.take_length] at *)
  all_goals first | assumption | exact unit_good (by assumption) | (simp_all [hasR, cmp_lt_less, cmp_le_less, cmp_le_iff, cmp_lt_iff]; done) | skip
noncomputable def s_spec_rnHas : Sig := ⟨115, [.val .iv, .val .rat], [.val .bool], fun ((i : Iv), (x : Rt), _) => ⟨[ivOk i = true, goodRt x = true], (hasR i x, ()), ()⟩⟩
theorem ok_spec_rnHas : GSpec Tryz.prog s_spec_rnHas := by
  refine fn_known tab_ok fol (Known.nil.cons ok_spec_raCmp (by kernel_rfl)) (by decide) Tryz.func115 ?_
  rintro ⟨⟨⟨(n : Int), (d : Int)⟩, ⟨(m : Int), (e : Int)⟩⟩, ⟨(n' : Int), (d' : Int)⟩, ⟨⟩⟩ - ⟨h1, h2, _⟩
  obtain ⟨u1, u2, u3⟩ := ivOk_iff.1 h1
  repeat' (first | with_reducible apply andAll_cons | with_reducible apply andAll_nil | (with_reducible apply Cf.mk; kernel_rfl) | apply And.intro | intro _ | exact True.intro | apply Lf.mk)
  all_goals (try simp only [Bool.not_eq_true', Bool.not_eq_false', Bool.not_not, decide_eq_true_eq, decide_eq_false_iff_not, beq_iff_eq, bne_iff_ne, beq_eq_false_iff_ne, bne_eq_false_iff_eq, ne_eq, Bool.and_eq_true, Bool.and_eq_false_iff, Bool.or_eq_true, Bool.or_eq_false_iff, Int.toNat_natCast, Nat.zero_add, Int.ofNat_lt, Int.ofNat_le, List.length_cons, List.length_nil, List.drop_zero, List.take_length] at *)
  all_goals first | assumption | exact unit_good (by assumption) | (simp_all [hasR, cmp_lt_less, cmp_le_less, cmp_le_iff, cmp_lt_iff]; done) | skip
end Go.Vx
