/- Images of intervals: the program's functions and the reference's. -/
import Derived.Test.YtiklhpmlchalkaaVxIv
namespace Go.Vx
open Go Go.Proofs
set_option maxRecDepth 100000
set_option linter.unusedSimpArgs false
set_option linter.unusedVariables false

abbrev rT : Nat := 26
noncomputable def s_calc_image_1 : Sig := ⟨129, [.val .rat, .cell rT .rat, .cell rT .rat], [], fun ((y : Rt), (lo : Rt), (hi : Rt), _) => ⟨[goodRt y = true, goodRt lo = true, goodRt hi = true], (), (lsR lo y, grR hi y, ())⟩⟩
theorem ok_calc_image_1 : GSpec Try.prog s_calc_image_1 := by
  refine fn_known tab_ok fol ((Known.nil.cons ok_impl_lesser (by kernel_rfl)).cons ok_impl_greater (by kernel_rfl)) (by decide) Try.func129 ?_
  rintro ⟨⟨(n : Int), (d : Int)⟩, ⟨(m : Int), (e : Int)⟩, ⟨(n' : Int), (d' : Int)⟩, ⟨⟩⟩ - ⟨h1, h2, h3, _⟩
  repeat' (first | with_reducible apply andAll_cons | with_reducible apply andAll_nil | (with_reducible apply Cf.mk; kernel_rfl) | apply And.intro | intro _ | exact True.intro | apply Lf.mk)
  all_goals (try simp only [Bool.not_eq_true', Bool.not_eq_false', Bool.not_not, decide_eq_true_eq, decide_eq_false_iff_not, beq_iff_eq, bne_iff_ne, beq_eq_false_iff_ne, bne_eq_false_iff_eq, ne_eq, Bool.and_eq_true, Bool.and_eq_false_iff, Bool.or_eq_true, Bool.or_eq_false_iff, Int.toNat_natCast, Nat.zero_add, Int.ofNat_lt, Int.ofNat_le, List.length_cons, List.length_nil, List.drop_zero, List.take_length] at *)
  all_goals first | assumption | rfl
theorem inB_t {a b : Rt} {p : Pt} (h1 : lessRt a p.x = true) (h2 : lessRt p.x b = true) : inB' a b p = true := by unfold inB'; rw [h1, h2]; rfl
theorem inB_f1 {a b : Rt} {p : Pt} (h1 : lessRt a p.x = false) : ¬ inB' a b p = true := by unfold inB'; rw [h1]; simp
theorem inB_f2 {a b : Rt} {p : Pt} (h2 : lessRt p.x b = false) : ¬ inB' a b p = true := by unfold inB'; rw [h2]; simp
theorem flag2 {f : List Pt} {a b : Rt} (c : Bool) : ((c || !(vR f a).2) || !(vR f b).2) = (c || !imB f a b) := by
  unfold imB; cases c <;> cases (vR f a).2 <;> cases (vR f b).2 <;> rfl
noncomputable def s_calc_image : Sig := ⟨107, [.cell cT .bool, .list .pt, .val .rat, .val .rat], [.val .rat, .val .rat], fun ((c : Bool), (f : List Pt), (a : Rt), (b : Rt), _) => ⟨[mapOk f = true, unitRt a = true, unitRt b = true], ((imO f a b).1, (imO f a b).2, ()), (c || !imB f a b, ())⟩⟩
theorem ok_calc_image : GSpec Try.prog s_calc_image := by
  refine fn_known tab_ok fol (((Known.nil.cons ok_calc_value (by kernel_rfl)).cons ok_calc_image_1 (by kernel_rfl)).cons ok_impl_less (by kernel_rfl)) (by decide) Try.func107 ?_
  rintro ⟨(c : Bool), (f : List Pt), ⟨(n : Int), (d : Int)⟩, ⟨(m : Int), (e : Int)⟩, ⟨⟩⟩ ⟨hl, _⟩ ⟨h1, h2, h3, _⟩
  have hl : f.length ≤ 9223372036854775807 := hl
  have u1 := vO_unit h1 h2
  have u2 := vO_unit h1 h3
  have g1 := unit_good u1
  have g2 := unit_good u2
  repeat' (first | with_reducible apply andAll_cons | with_reducible apply andAll_nil | (with_reducible apply Cf.mk; kernel_rfl) | apply And.intro | intro _ | exact True.intro | apply Lf.mk)
  all_goals (try simp only [Bool.not_eq_true', Bool.not_eq_false', Bool.not_not, decide_eq_true_eq, decide_eq_false_iff_not, beq_iff_eq, bne_iff_ne, beq_eq_false_iff_ne, bne_eq_false_iff_eq, ne_eq, Bool.and_eq_true, Bool.and_eq_false_iff, Bool.or_eq_true, Bool.or_eq_false_iff, Int.toNat_natCast, Nat.zero_add, Int.ofNat_lt, Int.ofNat_le, List.length_cons, List.length_nil, List.drop_zero, List.take_length] at *)
  all_goals first | assumption | skip
  refine ⟨Nat, fun i => ⟨[(29, .sc (.num .i64 i))], [100000, 100001, 6, 7, 8, 9], [(10, .box rT [.num .i64 (imI f ⟨n, d⟩ ⟨m, e⟩ i).1.num, .num .i64 (imI f ⟨n, d⟩ ⟨m, e⟩ i).1.den]), (11, .box rT [.num .i64 (imI f ⟨n, d⟩ ⟨m, e⟩ i).2.num, .num .i64 (imI f ⟨n, d⟩ ⟨m, e⟩ i).2.den])]⟩, fun i => i ≤ f.length, fun i => f.length - i, ⟨0, Nat.zero_le _, ?_⟩, ?_⟩
  · repeat' (first | apply And.intro | exact True.intro | exact Lf.mk (by with_reducible rfl) | apply Lf.mk)
    all_goals rfl
  · intro i g3
    obtain ⟨r1, r2, r3⟩ := imI_rg h1 h2 h3 i g3
    have r1 := unit_good r1
    have r2 := unit_good r2
    repeat' (first | with_reducible apply andAll_cons | with_reducible apply andAll_nil | (with_reducible apply Cf.mk; kernel_rfl) | apply And.intro | intro _ | exact True.intro | apply Lf.mk)
    all_goals (try simp only [Bool.not_eq_true', Bool.not_eq_false', Bool.not_not, decide_eq_true_eq, decide_eq_false_iff_not, beq_iff_eq, bne_iff_ne, beq_eq_false_iff_ne, bne_eq_false_iff_eq, ne_eq, Bool.and_eq_true, Bool.and_eq_false_iff, Bool.or_eq_true, Bool.or_eq_false_iff, Int.toNat_natCast, Nat.zero_add, Int.ofNat_lt, Int.ofNat_le, List.length_cons, List.length_nil, List.drop_zero, List.take_length] at *)
    all_goals first | omega | assumption | exact unit_good h2 | exact unit_good h3 | exact coord_good (ptOk_iff.1 (map_pt h1 (by assumption))).1 | exact coord_good (ptOk_iff.1 (map_pt h1 (by assumption))).2 | skip
    · have e := imI_t (f := f) (i := i) (by assumption) (inB_t (a := ⟨n, d⟩) (b := ⟨m, e⟩) (by assumption) (by assumption))
      refine ⟨i + 1, by omega, by omega, ?_⟩
      repeat' (first | apply And.intro | exact True.intro | exact Lf.mk (by with_reducible rfl) | apply Lf.mk)
      all_goals first | (rw [Int.natCast_add]; rfl) | (rw [e]; done) | (rw [e]; rfl)
    · have e := imI_f (f := f) (i := i) (by assumption) (inB_f2 (a := ⟨n, d⟩) (b := ⟨m, e⟩) (by assumption))
      refine ⟨i + 1, by omega, by omega, ?_⟩
      repeat' (first | apply And.intro | exact True.intro | exact Lf.mk (by with_reducible rfl) | apply Lf.mk)
      all_goals first | (rw [Int.natCast_add]; rfl) | (rw [e]; done) | (rw [e]; rfl)
    · have e := imI_f (f := f) (i := i) (by assumption) (inB_f1 (a := ⟨n, d⟩) (b := ⟨m, e⟩) (by assumption))
      refine ⟨i + 1, by omega, by omega, ?_⟩
      repeat' (first | apply And.intro | exact True.intro | exact Lf.mk (by with_reducible rfl) | apply Lf.mk)
      all_goals first | (rw [Int.natCast_add]; rfl) | (rw [e]; done) | (rw [e]; rfl)
    · rw [show i = f.length by omega]; rfl
    · rw [show i = f.length by omega]; rfl
    · exact flag2 c
noncomputable def s_spec_imImage : Sig := ⟨101, [.list .pt, .val .rat, .val .rat], [.val .rat, .val .rat, .val .bool], fun ((f : List Pt), (a : Rt), (b : Rt), _) => ⟨[mapOk f = true, unitRt a = true, unitRt b = true], ((imR f a b).1, (imR f a b).2, imB f a b, ()), ()⟩⟩
@[irreducible] noncomputable def imV (f : List Pt) (a b : Rt) (i : Nat) : List Rt := vO f b :: inY a b (f.take i)
@[irreducible] noncomputable def imW (f : List Pt) (a b : Rt) (j : Nat) : Rt × Rt := ((imV f a b f.length).take j).foldl imF (vO f a, vO f a)
theorem imV_t {f : List Pt} {a b : Rt} {i : Nat} (h : i < f.length) (h1 : inB' a b (getA zP f i) = true) : imV f a b (i + 1) = imV f a b i ++ [(getA zP f i).y] := by
  unfold imV; rw [inY_succ h, if_pos h1]; rfl
theorem imV_f {f : List Pt} {a b : Rt} {i : Nat} (h : i < f.length) (h1 : ¬ inB' a b (getA zP f i) = true) : imV f a b (i + 1) = imV f a b i := by
  unfold imV; rw [inY_succ h, if_neg h1, List.append_nil]
theorem inY_len (a b : Rt) (l : List Pt) : (inY a b l).length ≤ l.length := by
  unfold inY; rw [List.length_map]; exact List.length_filter_le _ _
theorem imV_len {f : List Pt} {a b : Rt} {i : Nat} (h : i ≤ f.length) : (imV f a b i).length ≤ i + 1 := by
  have := inY_len a b (f.take i)
  unfold imV; rw [List.length_cons]; rw [List.length_take] at this; omega
theorem imV_unit {f : List Pt} {a b : Rt} {i : Nat} (h : mapOk f = true) (hb : unitRt b = true) : ∀ y ∈ imV f a b i, unitRt y = true := by
  intro y hy
  unfold imV at hy
  rcases List.mem_cons.1 hy with rfl | hy
  · exact vO_unit h hb
  · obtain ⟨p, hp, rfl⟩ := List.mem_map.1 hy
    have := List.mem_of_mem_take (List.mem_filter.1 hp).1
    exact coord_unit (ptOk_iff.1 ((mapOk_iff.1 h).2.1 _ this)).2
theorem imW_succ {f : List Pt} {a b : Rt} {j : Nat} (h : j < (imV f a b f.length).length) : imW f a b (j + 1) = imF (imW f a b j) (getA zR (imV f a b f.length) j) := by
  unfold imW
  rw [List.take_add_one, List.foldl_append, List.getElem?_eq_getElem h, getA_lt _ _ _ h]; rfl
theorem imW_end {f : List Pt} {a b : Rt} {j : Nat} (h : ¬ j < (imV f a b f.length).length) : imW f a b j = imO f a b := by
  unfold imW
  rw [List.take_of_length_le (by omega)]
  unfold imV imO imI
  rw [List.take_length]
  rfl
theorem imW_0 {f : List Pt} {a b : Rt} : imW f a b 0 = (vO f a, vO f a) := by unfold imW; rfl
theorem imW_rg {f : List Pt} {a b : Rt} (h : mapOk f = true) (ha : unitRt a = true) (hb : unitRt b = true) : ∀ (j : Nat), j ≤ (imV f a b f.length).length → Rg (imW f a b j)
  | 0, _ => by rw [imW_0]; exact rg_refl (vO_unit h ha)
  | j + 1, hj => by rw [imW_succ (by omega)]; exact imF_rg (imW_rg h ha hb j (by omega)) (imV_unit h hb _ (getA_mem _ (by omega)))
theorem imB_1 {f : List Pt} {a b : Rt} (h : (vR f a).2 = false) : imB f a b = false := by unfold imB; rw [h]; rfl
theorem imB_2 {f : List Pt} {a b : Rt} (h : (vR f b).2 = false) : imB f a b = false := by unfold imB; rw [h]; simp
theorem imB_t {f : List Pt} {a b : Rt} (h : (vR f a).2 = true) (h2 : (vR f b).2 = true) : imB f a b = true := by unfold imB; rw [h, h2]; rfl
theorem cmp_nlt' {a b : Rt} (h : ¬ cmpRt a b < 0) : ¬ ltR a b := fun h2 => h (cmpRt_neg.2 h2)
theorem imW_1 {f : List Pt} {a b : Rt} {j : Nat} (h : j < (imV f a b f.length).length) (c : ltR (getA zR (imV f a b f.length) j) (imW f a b j).1) : (imW f a b (j + 1)).1 = getA zR (imV f a b f.length) j := by
  rw [imW_succ h]; exact lsR_alt2 c
theorem imW_2 {f : List Pt} {a b : Rt} {j : Nat} (h : j < (imV f a b f.length).length) (g1 : goodRt (imW f a b j).1 = true) (g2 : goodRt (getA zR (imV f a b f.length) j) = true) (c : ¬ ltR (getA zR (imV f a b f.length) j) (imW f a b j).1) : (imW f a b (j + 1)).1 = (imW f a b j).1 := by
  rw [imW_succ h]; exact lsR_alt g1 g2 c
theorem imW_3 {f : List Pt} {a b : Rt} {j : Nat} (h : j < (imV f a b f.length).length) (c : ltR (imW f a b j).2 (getA zR (imV f a b f.length) j)) : (imW f a b (j + 1)).2 = getA zR (imV f a b f.length) j := by
  rw [imW_succ h]; exact grR_t c
theorem imW_4 {f : List Pt} {a b : Rt} {j : Nat} (h : j < (imV f a b f.length).length) (c : ¬ ltR (imW f a b j).2 (getA zR (imV f a b f.length) j)) : (imW f a b (j + 1)).2 = (imW f a b j).2 := by
  rw [imW_succ h]; exact grR_f c
theorem cmp_nlt {a b : Rt} (h : ¬ cmpRt a b < 0) : lessRt a b = false := by
  rw [Bool.eq_false_iff, ne_eq, ← cmp_lt_iff]; exact h
theorem ok_spec_imImage : GSpec Try.prog s_spec_imImage := by
  refine fn_known tab_ok fol ((Known.nil.cons ok_spec_imAt (by kernel_rfl)).cons ok_spec_raCmp (by kernel_rfl)) (by decide) Try.func101 ?_
  rintro ⟨(f : List Pt), ⟨(n : Int), (d : Int)⟩, ⟨(m : Int), (e : Int)⟩, ⟨⟩⟩ ⟨hl, _⟩ ⟨h1, h2, h3, _⟩
  have hl : f.length ≤ 9223372036854775807 := hl
  have hm := (mapOk_iff.1 h1).1
  repeat' (first | with_reducible apply andAll_cons | with_reducible apply andAll_nil | (with_reducible apply Cf.mk; kernel_rfl) | apply And.intro | intro _ | exact True.intro | apply Lf.mk)
  all_goals (try simp only [Bool.not_eq_true', Bool.not_eq_false', Bool.not_not, decide_eq_true_eq, decide_eq_false_iff_not, beq_iff_eq, bne_iff_ne, beq_eq_false_iff_ne, bne_eq_false_iff_eq, ne_eq, Bool.and_eq_true, Bool.and_eq_false_iff, Bool.or_eq_true, Bool.or_eq_false_iff, Int.toNat_natCast, Nat.zero_add, Int.ofNat_lt, Int.ofNat_le, List.length_cons, List.length_nil, List.drop_zero, List.take_length] at *)
  all_goals first
    | assumption
    | contradiction
    | exact (congrArg Prod.fst (imR_f (imB_1 (by assumption)))).symm
    | exact (congrArg Prod.snd (imR_f (imB_1 (by assumption)))).symm
    | exact (congrArg Prod.fst (imR_f (imB_2 (by assumption)))).symm
    | exact (congrArg Prod.snd (imR_f (imB_2 (by assumption)))).symm
    | exact (imB_1 (by assumption)).symm
    | exact (imB_2 (by assumption)).symm
    | skip
  rename_i hA hB
  have u1 := vR_unit h1 h2 hA
  have eA := vO_t hA
  have eB := vO_t hB
  refine ⟨Nat, fun i => ⟨[(44, .sc (.num .i64 i)), (14, .sc (.own 7777777))], [100000, 4, 5, 6, 7, 9, 11, 13], [(7777777, .row rT .rat (imV f ⟨n, d⟩ ⟨m, e⟩ i))]⟩, fun i => i ≤ f.length, fun i => f.length - i, ⟨0, Nat.zero_le _, ?_⟩, ?_⟩
  · repeat' (first | apply And.intro | exact True.intro | exact Lf.mk (by with_reducible rfl) | apply Lf.mk)
    all_goals first | rfl | (unfold imV; rw [eB]; rfl)
  · intro i g3
    have hL := imV_len (a := ⟨n, d⟩) (b := ⟨m, e⟩) g3
    repeat' (first | with_reducible apply andAll_cons | with_reducible apply andAll_nil | (with_reducible apply Cf.mk; kernel_rfl) | apply And.intro | intro _ | exact True.intro | apply Lf.mk)
    all_goals (try simp only [Bool.not_eq_true', Bool.not_eq_false', Bool.not_not, decide_eq_true_eq, decide_eq_false_iff_not, beq_iff_eq, bne_iff_ne, beq_eq_false_iff_ne, bne_eq_false_iff_eq, ne_eq, Bool.and_eq_true, Bool.and_eq_false_iff, Bool.or_eq_true, Bool.or_eq_false_iff, Int.toNat_natCast, Nat.zero_add, Int.ofNat_lt, Int.ofNat_le, List.length_cons, List.length_nil, List.drop_zero, List.take_length] at *)
    all_goals first | omega | assumption | exact unit_good h2 | exact unit_good h3 | exact coord_good (ptOk_iff.1 (map_pt h1 (by assumption))).1 | exact coord_good (ptOk_iff.1 (map_pt h1 (by assumption))).2 | (show (_ + 1) * 16 ≤ 140737488355328; omega) | skip
    · have e := imV_t (f := f) (i := i) (by assumption) (inB_t (a := ⟨n, d⟩) (b := ⟨m, e⟩) (cmp_lt_iff.1 (by assumption)) (cmp_lt_iff.1 (by assumption)))
      refine ⟨i + 1, by omega, by omega, ?_⟩
      repeat' (first | apply And.intro | exact True.intro | exact Lf.mk (by with_reducible rfl) | apply Lf.mk)
      all_goals first | (rw [Int.natCast_add]; rfl) | (rw [e]; done) | (rw [e]; rfl)
    · have e := imV_f (f := f) (i := i) (by assumption) (inB_f2 (a := ⟨n, d⟩) (b := ⟨m, e⟩) (cmp_nlt (by assumption)))
      refine ⟨i + 1, by omega, by omega, ?_⟩
      repeat' (first | apply And.intro | exact True.intro | exact Lf.mk (by with_reducible rfl) | apply Lf.mk)
      all_goals first | (rw [Int.natCast_add]; rfl) | (rw [e]; done) | (rw [e]; rfl)
    · have e := imV_f (f := f) (i := i) (by assumption) (inB_f1 (a := ⟨n, d⟩) (b := ⟨m, e⟩) (cmp_nlt (by assumption)))
      refine ⟨i + 1, by omega, by omega, ?_⟩
      repeat' (first | apply And.intro | exact True.intro | exact Lf.mk (by with_reducible rfl) | apply Lf.mk)
      all_goals first | (rw [Int.natCast_add]; rfl) | (rw [e]; done) | (rw [e]; rfl)
    · have hi : i = f.length := by omega
      subst hi
      refine ⟨Nat, fun j => ⟨[(68, .sc (.num .i64 j))], [6, 7, 7777777], [(9, .box rT [.num .i64 (imW f ⟨n, d⟩ ⟨m, e⟩ j).1.num, .num .i64 (imW f ⟨n, d⟩ ⟨m, e⟩ j).1.den]), (13, .box rT [.num .i64 (imW f ⟨n, d⟩ ⟨m, e⟩ j).2.num, .num .i64 (imW f ⟨n, d⟩ ⟨m, e⟩ j).2.den])]⟩, fun j => j ≤ (imV f ⟨n, d⟩ ⟨m, e⟩ f.length).length, fun j => (imV f ⟨n, d⟩ ⟨m, e⟩ f.length).length - j, ⟨0, Nat.zero_le _, ?_⟩, ?_⟩
      · repeat' (first | apply And.intro | exact True.intro | exact Lf.mk (by with_reducible rfl) | apply Lf.mk)
        all_goals first | rfl | exact congrArg Rt.num (eA.symm.trans (congrArg Prod.fst imW_0).symm) | exact congrArg Rt.den (eA.symm.trans (congrArg Prod.fst imW_0).symm) | exact congrArg Rt.num (eA.symm.trans (congrArg Prod.snd imW_0).symm) | exact congrArg Rt.den (eA.symm.trans (congrArg Prod.snd imW_0).symm)
      · intro j g4
        obtain ⟨r1, r2, r3⟩ := imW_rg h1 h2 h3 j g4
        have r1 := unit_good r1
        have r2 := unit_good r2
        repeat' (first | with_reducible apply andAll_cons | with_reducible apply andAll_nil | (with_reducible apply Cf.mk; kernel_rfl) | apply And.intro | intro _ | exact True.intro | apply Lf.mk)
        all_goals (try simp only [Bool.not_eq_true', Bool.not_eq_false', Bool.not_not, decide_eq_true_eq, decide_eq_false_iff_not, beq_iff_eq, bne_iff_ne, beq_eq_false_iff_ne, bne_eq_false_iff_eq, ne_eq, Bool.and_eq_true, Bool.and_eq_false_iff, Bool.or_eq_true, Bool.or_eq_false_iff, Int.toNat_natCast, Nat.zero_add, Int.ofNat_lt, Int.ofNat_le, List.length_cons, List.length_nil, List.drop_zero, List.take_length] at *)
        all_goals first | omega | assumption | exact unit_good (imV_unit h1 h3 _ (getA_mem _ (by assumption))) | (rw [imW_end (by assumption)]; exact (congrArg Prod.fst (imR_t hA hB)).symm) | (rw [imW_end (by assumption)]; exact (congrArg Prod.snd (imR_t hA hB)).symm) | exact (imB_t hA hB).symm | skip
        all_goals
          have hj : j < (imV f ⟨n, d⟩ ⟨m, e⟩ f.length).length := by assumption
          have gy := unit_good (imV_unit h1 h3 _ (getA_mem zR hj))
          have e1 := fun c => imW_1 (f := f) (a := ⟨n, d⟩) (b := ⟨m, e⟩) hj c
          have e2 := fun c => imW_2 (f := f) (a := ⟨n, d⟩) (b := ⟨m, e⟩) hj r1 gy c
          have e3 := fun c => imW_3 (f := f) (a := ⟨n, d⟩) (b := ⟨m, e⟩) hj c
          have e4 := fun c => imW_4 (f := f) (a := ⟨n, d⟩) (b := ⟨m, e⟩) hj c
          refine ⟨j + 1, by omega, by omega, ?_⟩
          repeat' (first | apply And.intro | exact True.intro | exact Lf.mk (by with_reducible rfl) | apply Lf.mk)
          all_goals first
            | (rw [Int.natCast_add]; rfl)
            | exact congrArg Rt.num (e1 (cmpRt_neg.1 (by assumption))).symm
            | exact congrArg Rt.den (e1 (cmpRt_neg.1 (by assumption))).symm
            | exact congrArg Rt.num (e2 (cmp_nlt' (by assumption))).symm
            | exact congrArg Rt.den (e2 (cmp_nlt' (by assumption))).symm
            | exact congrArg Rt.num (e3 (cmpRt_neg.1 (by assumption))).symm
            | exact congrArg Rt.den (e3 (cmpRt_neg.1 (by assumption))).symm
            | exact congrArg Rt.num (e4 (cmp_nlt' (by assumption))).symm
            | exact congrArg Rt.den (e4 (cmp_nlt' (by assumption))).symm
end Go.Vx
