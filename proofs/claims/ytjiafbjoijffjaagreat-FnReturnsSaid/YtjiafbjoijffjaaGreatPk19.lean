/- Sorting a row of fractions in place, over whatever program bears the library's sort. -/
import Derived.Test.YtjiafbjoijffjaaGreatPk18
import Derived.Test.YtjiafbjoijffjaaGreatPk17
import Derived.Test.YtjiafbjoijffjaaGreatPk14
import Derived.Shelf.SlSortCmp.WholeK
import Derived.Test.YtjiafbjoijffjaaGreatChecked
import Derived.Test.YtjiafbjoijffjaaGreatPk15
import Derived.Shelf.SlSortCmp.NoneTotal
namespace Go.Vx
open Go
set_option maxRecDepth 100000
set_option linter.unusedSimpArgs false
set_option linter.unusedVariables false

theorem low_zero {d : Int} (h : d ≠ 0) (h1 : -1000000000000000000 ≤ d ∧ d ≤ 1000000000000000000) : lowRt 0 d = (⟨0, 1⟩, true) := by
  have hg : gsgn 0 d = d := by
    unfold gsgn
    rw [Int.gcd_zero_left]
    split <;> omega
  have e : (⟨(0 : Int).tdiv (gsgn 0 d), d.tdiv (gsgn 0 d)⟩ : Rt) = ⟨0, 1⟩ := by
    rw [hg, Int.zero_tdiv, Int.tdiv_self h]
  have : goodRt ⟨(0 : Int).tdiv (gsgn 0 d), d.tdiv (gsgn 0 d)⟩ = true := by rw [e]; exact good_zero
  rw [lowRt_t this, e]
theorem div_zero_l {s : Rt} (hs : goodRt s = true) (h : s.num ≠ 0) : divRt ⟨0, 1⟩ s = (⟨0, 1⟩, true) := by
  rw [goodRt_iff] at hs
  unfold divRt
  dsimp only
  rw [Int.zero_mul, Int.one_mul]
  exact low_zero h (by omega)
theorem backO_unit {p q : Pt} {y : Rt} (hp : ptOk p = true) (hq : ptOk q = true) (h : ltR p.x q.x) (hy : goodRt y = true) (hc : crP p q y = true) : unitRt (backO p (slR p q) y) = true := by
  have gx := coord_good (ptOk_iff.1 hp).1
  have ux := coord_unit (ptOk_iff.1 hp).1
  obtain ⟨s1, s2, s3⟩ := slR_ok hp hq h
  cases ho : (backR p (slR p q) y).2 with
  | true => rw [backO_t ho]; exact cross_unit hp hq h hy hc ho
  | false =>
    unfold backO
    cases e1 : (subRt y p.y).2 with
    | false =>
      rw [opR_f e1]
      by_cases h0 : (slR p q).num = 0
      · exfalso
        have hc' : cmpRt p.y y * cmpRt q.y y < 0 := of_decide_eq_true hc
        have gy := coord_good (ptOk_iff.1 hp).2
        have gY := coord_good (ptOk_iff.1 hq).2
        have z : qR (slR p q) = 0 := by
          have a := q_negR s2
          have b := q_pos s2
          by_cases h5 : qR (slR p q) < 0
          · have := a.2 h5; omega
          · by_cases h6 : 0 < qR (slR p q)
            · have := b.2 h6; omega
            · grind
        rw [z] at s3
        have e : p.y = q.y := q_inj gy gY (by grind)
        rw [← e] at hc'
        rcases cmp_1 p.y y with h5 | h5 | h5 <;> rw [h5] at hc' <;> revert hc' <;> decide
      · rw [div_zero_l s2 h0, opR_p, add_zero_r gx, opR_p]; exact ux
    | true =>
      cases e2 : (divRt (opR (subRt y p.y)) (slR p q)).2 with
      | false => rw [opR_f e2, add_zero_r gx, opR_p]; exact ux
      | true =>
        cases e3 : (addRt p.x (opR (divRt (opR (subRt y p.y)) (slR p q)))).2 with
        | false => rw [opR_f e3]; exact unit_zero
        | true =>
          exfalso
          have := back_flag false p (slR p q) y
          rw [e1, e2, e3, ho] at this
          cases this
theorem bf_unitA {f : List Pt} {y x : Rt} (hf : mapOk f = true) (hy : goodRt y = true) (hx : x ∈ bfO f y) : unitRt x = true := by
  unfold bfO biRaw at hx
  obtain ⟨m1, m2, m3, m4, m5⟩ := mapOk_iff.1 hf
  rcases putsL_mem.1 hx with h | h
  · cases h
  · simp only [List.mem_flatMap, List.mem_range, biA, biB, List.mem_append, mem_bif] at h
    obtain ⟨i, hi, ⟨_, h2⟩ | ⟨h1, h2⟩⟩ := h
    · rw [h2]; exact coord_unit (ptOk_iff.1 (map_pt hf hi)).1
    · obtain ⟨k, rfl⟩ : ∃ k, i = k + 1 := ⟨i - 1, by
        rcases Nat.eq_zero_or_pos i with h0 | h0
        · rw [h0, biT_zero] at h1; cases h1
        · omega⟩
      rw [biT_succ] at h1
      rw [biX_succ] at h2
      rw [h2]
      exact backO_unit (map_pt hf (by omega)) (map_pt hf hi) (m5 k hi) hy h1
theorem bd_unitA {f h : List Pt} {x : Rt} (hf : mapOk f = true) (hh : mapOk h = true) (hx : x ∈ bdO f h) : unitRt x = true := by
  unfold bdO bdRaw at hx
  rcases putsL_mem.1 hx with h1 | h1
  · cases h1
  · rcases List.mem_append.1 h1 with h1 | h1
    · rcases List.mem_append.1 h1 with h1 | h1
      · exact mapx_unit hf h1
      · exact mapx_unit hh h1
    · simp only [List.mem_flatMap, List.mem_range] at h1
      obtain ⟨i, hi, h2⟩ := h1
      exact bf_unitA hf (pt_gd hh hi) h2

/-! ### points of a rising list, without those between pieces of the same slope -/
@[irreducible] def rsOk (l : List Pt) : Prop := (∀ p ∈ l, ptOk p = true) ∧ ∀ i, i + 1 < l.length → ltR (getA zP l i).x (getA zP l (i + 1)).x
theorem rsOk_iff {l : List Pt} : rsOk l ↔ ((∀ p ∈ l, ptOk p = true) ∧ ∀ i, i + 1 < l.length → ltR (getA zP l i).x (getA zP l (i + 1)).x) := by unfold rsOk; exact Iff.rfl
theorem rs_pt {l : List Pt} (h : rsOk l) {i : Nat} (hi : i < l.length) : ptOk (getA zP l i) = true := (rsOk_iff.1 h).1 _ (getA_mem _ hi)
theorem rs_lt {l : List Pt} (h : rsOk l) {i : Nat} (hi : i + 1 < l.length) : ltR (getA zP l i).x (getA zP l (i + 1)).x := (rsOk_iff.1 h).2 i hi
noncomputable def smT (l : List Pt) (i : Nat) : Bool := !eqRt (slR (getA zP l (i - 1)) (getA zP l i)) (slR (getA zP l i) (getA zP l (i + 1)))
theorem smT_succ (l : List Pt) (i : Nat) : smT l (i + 1) = !eqRt (slR (getA zP l i) (getA zP l (i + 1))) (slR (getA zP l (i + 1)) (getA zP l (i + 1 + 1))) := rfl
noncomputable def smI (l : List Pt) (i : Nat) : List Pt := bif (decide (i + 1 = l.length) || smT l i) then [getA zP l i] else []
@[irreducible] noncomputable def smK (l : List Pt) (n : Nat) : List Pt := [getA zP l 0] ++ (List.range n).flatMap fun j => smI l (j + 1)
theorem smK_zero (l : List Pt) : smK l 0 = [getA zP l 0] := by unfold smK; simp
theorem smK_succ (l : List Pt) (n : Nat) : smK l (n + 1) = smK l n ++ smI l (n + 1) := by unfold smK; rw [List.range_succ, List.flatMap_append]; simp
theorem smI_t {l : List Pt} {i : Nat} (h : i + 1 = l.length ∨ smT l i = true) : smI l i = [getA zP l i] := by
  unfold smI
  rcases h with h | h
  · rw [decide_eq_true h]; rfl
  · rw [h, Bool.or_true]; rfl
theorem smI_f {l : List Pt} {i : Nat} (h : ¬ i + 1 = l.length) (h2 : smT l i = false) : smI l i = [] := by
  unfold smI; rw [decide_eq_false h, h2]; rfl
theorem smK_len (l : List Pt) : ∀ n, (smK l n).length ≤ n + 1
  | 0 => by rw [smK_zero]; simp
  | n + 1 => by
    have := smK_len l n
    have h2 : (smI l (n + 1)).length ≤ 1 := by unfold smI; cases (decide (n + 1 + 1 = l.length) || smT l (n + 1)) <;> simp
    rw [smK_succ, List.length_append]; omega
@[irreducible] noncomputable def smL (l : List Pt) : List Pt := smK l (l.length - 1)
theorem smL_len (l : List Pt) : (smL l).length ≤ l.length - 1 + 1 := by unfold smL; exact smK_len l _

/-! ### the conjugate map -/
@[irreducible] noncomputable def cmL (f h : List Pt) (n : Nat) : List Pt := (List.range n).map fun i => ⟨vO h (getA zR (bdO f h) i), vO h (vO f (getA zR (bdO f h) i))⟩
theorem cmL_zero (f h : List Pt) : cmL f h 0 = [] := by unfold cmL; rfl
theorem cmL_succ (f h : List Pt) (n : Nat) : cmL f h (n + 1) = cmL f h n ++ [⟨vO h (getA zR (bdO f h) n), vO h (vO f (getA zR (bdO f h) n))⟩] := by unfold cmL; rw [List.range_succ, List.map_append]; rfl
theorem cmL_len (f h : List Pt) (n : Nat) : (cmL f h n).length = n := by unfold cmL; simp
theorem cmL_get {f h : List Pt} {n i : Nat} (hi : i < n) : getA zP (cmL f h n) i = ⟨vO h (getA zR (bdO f h) i), vO h (vO f (getA zR (bdO f h) i))⟩ := by
  unfold cmL
  rw [getA_eq]; simp [List.getD, hi]
@[irreducible] noncomputable def cmG (f h : List Pt) (n : Nat) : Bool := bdG f h && (List.range n).all fun i => (vR h (getA zR (bdO f h) i)).2 && (twR f h (getA zR (bdO f h) i)).2
theorem cmG_zero (f h : List Pt) : cmG f h 0 = bdG f h := by unfold cmG; simp
theorem cmG_succ (f h : List Pt) (n : Nat) : cmG f h (n + 1) = (cmG f h n && ((vR h (getA zR (bdO f h) n)).2 && (twR f h (getA zR (bdO f h) n)).2)) := by unfold cmG; rw [List.range_succ, List.all_append]; simp [Bool.and_assoc]
theorem cm_flag {f h : List Pt} {i : Nat} : (((!cmG f h i || !(vR h (getA zR (bdO f h) i)).2) || !(vR f (getA zR (bdO f h) i)).2) || !(vR h (vO f (getA zR (bdO f h) i))).2) = !cmG f h (i + 1) := by
  rw [cmG_succ, twR_g]
  generalize cmG f h i = a
  generalize (vR h (getA zR (bdO f h) i)).2 = b
  generalize (vR f (getA zR (bdO f h) i)).2 = c
  generalize (vR h (vO f (getA zR (bdO f h) i))).2 = d
  cases a <;> cases b <;> cases c <;> cases d <;> rfl
theorem cmG_at {f h : List Pt} : ∀ {n : Nat}, cmG f h n = true → bdG f h = true ∧ ∀ i, i < n → (vR h (getA zR (bdO f h) i)).2 = true ∧ (twR f h (getA zR (bdO f h) i)).2 = true
  | 0, hg => by rw [cmG_zero] at hg; exact ⟨hg, fun i hi => by omega⟩
  | n + 1, hg => by
    rw [cmG_succ, Bool.and_eq_true, Bool.and_eq_true] at hg
    obtain ⟨a, b⟩ := cmG_at hg.1
    refine ⟨a, fun i hi => ?_⟩
    by_cases e : i = n
    · rw [e]; exact hg.2
    · exact b i (by omega)
/-- the points of the conjugate map -/
noncomputable abbrev cmN (f h : List Pt) : Nat := (bdO f h).length
noncomputable def cmK (f h : List Pt) (n : Nat) : Bool := cmG f h n && (cmL f h n).all ptOk
noncomputable def cmF (f h : List Pt) : List Pt × Bool := match mapOk (smL (cmL f h (cmN f h))) with
  | true => (smL (cmL f h (cmN f h)), true)
  | false => ([], false)
noncomputable def cmR (f h : List Pt) : List Pt × Bool := match cmK f h (cmN f h) with
  | true => cmF f h
  | false => ([], false)
noncomputable def cmRes (f h : List Pt) : List Pt × Bool := match mapOk f && chOk h with
  | true => cmR f h
  | false => ([], false)
theorem cmR_t {f h : List Pt} (hk : cmK f h (cmN f h) = true) : cmR f h = cmF f h := by unfold cmR; rw [hk]
theorem cmR_f {f h : List Pt} (hk : cmK f h (cmN f h) = false) : cmR f h = ([], false) := by unfold cmR; rw [hk]
theorem cmF_t {f h : List Pt} (hk : mapOk (smL (cmL f h (cmN f h))) = true) : cmF f h = (smL (cmL f h (cmN f h)), true) := by unfold cmF; rw [hk]
theorem cmF_f {f h : List Pt} (hk : mapOk (smL (cmL f h (cmN f h))) = false) : cmF f h = ([], false) := by unfold cmF; rw [hk]
theorem cmRes_t {f h : List Pt} (h1 : mapOk f = true) (h2 : chOk h = true) : cmRes f h = cmR f h := by unfold cmRes; rw [h1, h2]; rfl
theorem cmRes_f1 {f h : List Pt} (h1 : mapOk f = false) : cmRes f h = ([], false) := by unfold cmRes; rw [h1]; rfl
theorem cmRes_f2 {f h : List Pt} (h1 : chOk h = false) : cmRes f h = ([], false) := by unfold cmRes; rw [h1, Bool.and_false]
theorem cmRes_len (f h : List Pt) : (cmRes f h).1.length ≤ 12 := by
  unfold cmRes
  split
  · unfold cmR
    split
    · unfold cmF
      split
      · rename_i hm; exact (mapOk_iff.1 hm).1.2
      · exact Nat.zero_le _
    · exact Nat.zero_le _
  · exact Nat.zero_le _
/-- the bends: 0 and 1 at least -/
theorem bd_two {f h : List Pt} (hf : mapOk f = true) (hh : mapOk h = true) : 2 ≤ cmN f h := by
  obtain ⟨m1, m2, m3, m4, m5⟩ := mapOk_iff.1 hf
  have mem : ∀ p ∈ f, p.x ∈ bdO f h := fun p hp => by
    unfold bdO bdRaw
    exact putsL_mem.2 (.inr (List.mem_append.2 (.inl (List.mem_append.2 (.inl (List.mem_map_of_mem hp))))))
  have h0 : (⟨0, 1⟩ : Rt) ∈ bdO f h := by rw [← m3]; exact mem _ (getA_mem _ (by omega))
  have h1 : (⟨1, 1⟩ : Rt) ∈ bdO f h := by rw [← m4]; exact mem _ (getA_mem _ (by omega))
  revert h0 h1
  show _ → _ → 2 ≤ (bdO f h).length
  generalize bdO f h = l
  intro h0 h1
  match l, h0, h1 with
  | [], h0, _ => cases h0
  | [x], h0, h1 =>
    rw [List.mem_singleton] at h0 h1
    rw [← h0] at h1
    cases h1
  | _ :: _ :: r, _, _ => simp
theorem ss_get {l : List Rt} (hs : SS l) {i : Nat} (hi : i + 1 < l.length) : qR (getA zR l i) < qR (getA zR l (i + 1)) := by
  have := List.pairwise_iff_getElem.1 hs i (i + 1) (by omega) hi (by omega)
  rw [getA_eq, getA_eq]
  simpa [List.getD, show i < l.length by omega, hi] using this
theorem cm_rs {f h : List Pt} (hf : mapOk f = true) (hc : chOk h = true) (hk : cmK f h (cmN f h) = true) : rsOk (cmL f h (cmN f h)) := by
  have hh := (chOk_iff.1 hc).1
  unfold cmK at hk
  rw [Bool.and_eq_true, List.all_eq_true] at hk
  obtain ⟨g1, g2⟩ := cmG_at hk.1
  refine rsOk_iff.2 ⟨hk.2, fun i hi => ?_⟩
  rw [cmL_len] at hi
  rw [cmL_get (by omega), cmL_get hi]
  show ltR (vO h _) (vO h _)
  have u1 : unitRt (getA zR (bdO f h) i) = true := bd_unitA hf hh (getA_mem _ (show i < (bdO f h).length from Nat.lt_of_succ_lt hi))
  have u2 : unitRt (getA zR (bdO f h) (i + 1)) = true := bd_unitA hf hh (getA_mem _ hi)
  have o1 := (g2 i (by omega)).1
  have o2 := (g2 (i + 1) hi).1
  rw [vO_t o1, vO_t o2]
  exact (q_lt (vR_good hh u1 o1) (vR_good hh u2 o2)).2 (vR_mono hc u1 u2 o1 o2 (ss_get (bdO_ss hf hh) (show i + 1 < (bdO f h).length from hi)))
/-- a point whose denominators are too large -/
def bigP (p : Pt) : Bool := bif decide (100 < p.x.den) then true else decide (100 < p.y.den)
theorem pt_big {p : Pt} (hx : unitRt p.x = true) (hy : unitRt p.y = true) : ptOk p = !bigP p := by
  have e : ∀ r : Rt, unitRt r = true → coordRt r = !decide (100 < r.den) := fun r hr => by
    unfold coordRt
    rw [hr, Bool.true_and]
    by_cases h : 100 < r.den
    · rw [decide_eq_true h, decide_eq_false (by omega)]; rfl
    · rw [decide_eq_false h, decide_eq_true (by omega)]; rfl
  unfold ptOk bigP
  rw [e _ hx, e _ hy]
  cases decide (100 < p.x.den) <;> cases decide (100 < p.y.den) <;> rfl
theorem cm_units {f h : List Pt} (hf : mapOk f = true) (hc : chOk h = true) : ∀ p ∈ cmL f h (cmN f h), unitRt p.x = true ∧ unitRt p.y = true := by
  have hh := (chOk_iff.1 hc).1
  intro p hp
  unfold cmL at hp
  obtain ⟨i, hi, rfl⟩ := List.mem_map.1 hp
  have hi := List.mem_range.1 hi
  have u1 : unitRt (getA zR (bdO f h) i) = true := bd_unitA hf hh (getA_mem _ hi)
  exact ⟨vO_unit hh u1, vO_unit hh (vO_unit hf u1)⟩
theorem cm_big {f h : List Pt} (hf : mapOk f = true) (hc : chOk h = true) : (cmL f h (cmN f h)).all ptOk = !(cmL f h (cmN f h)).any bigP := by
  have hu := cm_units hf hc
  revert hu
  generalize cmL f h (cmN f h) = l
  induction l with
  | nil => intro _; rfl
  | cons p r ih =>
    intro hu
    have := hu p (by simp)
    rw [List.all_cons, List.any_cons, ih (fun q hq => hu q (by simp [hq])), pt_big this.1 this.2]
    cases bigP p <;> rfl

noncomputable def mdR (l : List Pt) : List Pt × Bool := match l.any bigP with
  | true => ([], false)
  | false => (smL l, mapOk (smL l))
theorem mdR_t {l : List Pt} (h : l.any bigP = true) : mdR l = ([], false) := by unfold mdR; rw [h]
theorem mdR_f {l : List Pt} (h : l.any bigP = false) : mdR l = (smL l, mapOk (smL l)) := by unfold mdR; rw [h]
noncomputable def fnR (c : Bool) (l : List Pt) : List Pt × Bool := match c with
  | true => ([], false)
  | false => match (mdR l).2 with
    | true => ((mdR l).1, true)
    | false => ([], false)
theorem fnR_c (l : List Pt) : fnR true l = ([], false) := rfl
theorem fnR_t {c : Bool} {l : List Pt} (hc : c = false) (h : (mdR l).2 = true) : fnR c l = ((mdR l).1, true) := by subst hc; unfold fnR; rw [h]
theorem fnR_f {c : Bool} {l : List Pt} (h : (mdR l).2 = false) : fnR c l = ([], false) := by
  cases c
  · unfold fnR; rw [h]
  · rfl
theorem fn_eq {f h : List Pt} (hf : mapOk f = true) (hc : chOk h = true) : fnR (!cmG f h (cmN f h)) (cmL f h (cmN f h)) = cmR f h := by
  have hb := cm_big hf hc
  cases hg : cmG f h (cmN f h) with
  | false =>
    have : cmK f h (cmN f h) = false := by unfold cmK; rw [hg]; rfl
    rw [cmR_f this]; rfl
  | true =>
    cases ha : (cmL f h (cmN f h)).any bigP with
    | true =>
      rw [ha] at hb
      have : cmK f h (cmN f h) = false := by unfold cmK; rw [hg, hb]; rfl
      rw [cmR_f this, fnR_f (by rw [mdR_t ha])]
    | false =>
      rw [ha] at hb
      have : cmK f h (cmN f h) = true := by unfold cmK; rw [hg, hb]; rfl
      rw [cmR_t this]
      cases hm : mapOk (smL (cmL f h (cmN f h))) with
      | true => rw [cmF_t hm, Bool.not_true, fnR_t rfl (by rw [mdR_f ha]; exact hm), mdR_f ha]
      | false => rw [cmF_f hm, fnR_f (by rw [mdR_f ha]; exact hm)]
theorem cm_rs' {f h : List Pt} (hf : mapOk f = true) (hc : chOk h = true) (hg : cmG f h (cmN f h) = true) (ha : (cmL f h (cmN f h)).any bigP = false) : rsOk (cmL f h (cmN f h)) := by
  refine cm_rs hf hc ?_
  unfold cmK
  rw [cm_big hf hc, ha, hg]; rfl
theorem cmK_zero {f h : List Pt} (hg : bdG f h = true) : cmK f h 0 = true := by unfold cmK; rw [cmG_zero, hg, cmL_zero]; rfl
theorem cmK_next {f h : List Pt} {i : Nat} (hk : cmK f h i = true) (h1 : (vR h (getA zR (bdO f h) i)).2 = true) (h2 : (twR f h (getA zR (bdO f h) i)).2 = true) (h3 : coordRt (vR h (getA zR (bdO f h) i)).1 = true) (h4 : coordRt (twR f h (getA zR (bdO f h) i)).1 = true) : cmK f h (i + 1) = true := by
  unfold cmK at hk ⊢
  rw [Bool.and_eq_true] at hk
  rw [cmG_succ, hk.1, h1, h2, cmL_succ, List.all_append, hk.2]
  have e2 := twO_t h2
  unfold twO at e2
  simp only [List.all_cons, List.all_nil, Bool.and_true, Bool.true_and]
  unfold ptOk
  dsimp only
  rw [vO_t h1, e2, h3, h4]; rfl
theorem cmL_next {f h : List Pt} {i : Nat} (h1 : (vR h (getA zR (bdO f h) i)).2 = true) (h2 : (twR f h (getA zR (bdO f h) i)).2 = true) : cmL f h i ++ [⟨(vR h (getA zR (bdO f h) i)).1, (twR f h (getA zR (bdO f h) i)).1⟩] = cmL f h (i + 1) := by
  have e2 := twO_t h2
  unfold twO at e2
  rw [cmL_succ, vO_t h1, e2]
theorem cmK_f0 {f h : List Pt} {n : Nat} (hb : bdG f h = false) : cmK f h n = false := by
  unfold cmK
  cases hg : cmG f h n
  · rfl
  · rw [(cmG_at hg).1] at hb; cases hb
theorem cmK_f {f h : List Pt} {i n : Nat} (hi : i < n) (hb : ¬ ((vR h (getA zR (bdO f h) i)).2 = true ∧ (twR f h (getA zR (bdO f h) i)).2 = true ∧ coordRt (vR h (getA zR (bdO f h) i)).1 = true ∧ coordRt (twR f h (getA zR (bdO f h) i)).1 = true)) : cmK f h n = false := by
  cases hk : cmK f h n
  · rfl
  · exfalso
    unfold cmK at hk
    rw [Bool.and_eq_true, List.all_eq_true] at hk
    obtain ⟨a, b⟩ := (cmG_at hk.1).2 i hi
    have hp := hk.2 _ (getA_mem zP (l := cmL f h n) (i := i) (by rw [cmL_len]; exact hi))
    rw [cmL_get hi, ptOk_iff] at hp
    have e2 := twO_t b
    unfold twO at e2
    dsimp only at hp
    rw [vO_t a, e2] at hp
    exact hb ⟨a, b, hp.1, hp.2⟩
end Go.Vx
namespace Go.Vx
open Go Go.Proofs
set_option maxRecDepth 100000
set_option linter.unusedSimpArgs false
set_option linter.unusedVariables false

theorem cond_and (P Q : Bool) : (bif P then Q else false) = (P && Q) := by cases P <;> rfl
theorem sl_all {h : List Pt} (hm : mapOk h = true) : ((slL h (h.length - 1)).any fun s => decide (s.num ≤ 0)) = !risR (h.map Pt.y) := by
  obtain ⟨m1, m2, m3, m4, m5⟩ := mapOk_iff.1 hm
  have key : ∀ i, i + 1 < h.length → (decide ((slR (getA zP h i) (getA zP h (i + 1))).num ≤ 0) = true ↔ ¬ ltR (getA zP h i).y (getA zP h (i + 1)).y) := fun i hi => by
    rw [decide_eq_true_eq, ← sl_pos (map_pt hm (by omega)) (map_pt hm hi) (m5 i hi)]; omega
  cases hr : risR (h.map Pt.y) with
  | true =>
    have hr := risR_iff.1 hr
    rw [List.length_map] at hr
    rw [List.any_eq_false.2]
    · rfl
    · intro x hx
      obtain ⟨i, hi, rfl⟩ := List.mem_map.1 hx
      have hi := List.mem_range.1 hi
      rw [(key i (by omega))]
      have := hr i (by omega)
      rw [getA_map Pt.y zP _ _ _ (by omega), getA_map Pt.y zP _ _ _ (by omega)] at this
      exact fun h => h this
  | false =>
    have : ¬ ∀ i, i + 1 < h.length → ltR (getA zP h i).y (getA zP h (i + 1)).y := by
      intro hall
      have : risR (h.map Pt.y) = true := risR_iff.2 (fun i hi => by
        rw [List.length_map] at hi
        rw [getA_map Pt.y zP _ _ _ (by omega), getA_map Pt.y zP _ _ _ (by omega)]; exact hall i hi)
      rw [hr] at this; cases this
    obtain ⟨i, hi⟩ := Classical.not_forall.1 this
    have hi1 : i + 1 < h.length := Classical.byContradiction fun h => hi (fun h2 => (h h2).elim)
    have hi2 : ¬ ltR (getA zP h i).y (getA zP h (i + 1)).y := fun h => hi (fun _ => h)
    rw [List.any_eq_true.2]
    · rfl
    · exact ⟨_, List.mem_map.2 ⟨i, List.mem_range.2 (by omega), rfl⟩, (key i hi1).2 hi2⟩
noncomputable def s_impl_isChange_1 : Sig := ⟨199, [.val .rat], [.val .bool], fun ((s : Rt), _) => ⟨[], (decide (s.num ≤ 0), ()), ()⟩⟩
theorem ok_impl_isChange_1 : GSpec Tryz.prog s_impl_isChange_1 := by
  refine fn_known tab_ok fol Known.nil (by decide) Tryz.func199 ?_
  rintro ⟨⟨(n : Int), (d : Int)⟩, ⟨⟩⟩ - -
  repeat' (first | with_reducible apply andAll_cons | with_reducible apply andAll_nil | (with_reducible apply Cf.mk; kernel_rfl) | apply And.intro | intro _ | exact True.intro | apply Lf.mk)
  all_goals rfl
noncomputable def s_impl_isChange : Sig := ⟨130, [.list .pt], [.val .bool], fun ((h : List Pt), _) => ⟨[], (chOk h, ()), ()⟩⟩
noncomputable def s_spec_cjGood : Sig := ⟨132, [.list .pt], [.val .bool], fun ((h : List Pt), _) => ⟨[], (chOk h, ()), ()⟩⟩
theorem ch_no0 {h : List Pt} (hm : mapOk h = false) : false = chOk h := by unfold chOk; rw [hm]; rfl
theorem ch_fin {h : List Pt} (hm : mapOk h = true) : (((mapOk h && eqRt (getA zP h (Int.toNat 0)).y ⟨0, 1⟩) && eqRt (getA zP h ((h.length : Int) - 1).toNat).y ⟨1, 1⟩) && !((slL h (h.length - 1)).any fun s => decide (s.num ≤ 0))) = chOk h := by
  have := (mapOk_iff.1 hm).1
  unfold chOk
  rw [sl_all hm, Bool.not_not, Bool.and_assoc, Bool.and_assoc, show ((h.length : Int) - 1).toNat = h.length - 1 by omega]
  rfl
theorem ch_noA {h : List Pt} (hA : (mapOk h && eqRt (getA zP h (Int.toNat 0)).y ⟨0, 1⟩) = false) : false = chOk h := by
  unfold chOk
  rw [← Bool.and_assoc]
  have hA : (mapOk h && eqRt (getA zP h 0).y ⟨0, 1⟩) = false := hA
  rw [hA]; rfl
theorem ch_noB {h : List Pt} (hm : mapOk h = true) (hA : ((mapOk h && eqRt (getA zP h (Int.toNat 0)).y ⟨0, 1⟩) && eqRt (getA zP h ((h.length : Int) - 1).toNat).y ⟨1, 1⟩) = false) : false = chOk h := by
  have := (mapOk_iff.1 hm).1
  unfold chOk
  rw [← Bool.and_assoc, ← Bool.and_assoc]
  rw [show ((h.length : Int) - 1).toNat = h.length - 1 by omega] at hA
  have hA : ((mapOk h && eqRt (getA zP h 0).y ⟨0, 1⟩) && eqRt (getA zP h (h.length - 1)).y ⟨1, 1⟩) = false := hA
  rw [hA]; rfl
theorem ok_impl_isChange : GSpec Tryz.prog s_impl_isChange := by
  refine fn_known tab_ok fol ((((((Known.nil.cons ok_impl_isMap (by kernel_rfl)).cons ok_impl_zero (by kernel_rfl)).cons ok_impl_oneRat (by kernel_rfl)).cons ok_impl_slopes (by kernel_rfl)).cons ok_lib_ContainsFuncRat (by kernel_rfl)).cons ok_impl_isChange_1 (by kernel_rfl)) (by decide) Tryz.func130 ?_
  rintro ⟨(h : List Pt), ⟨⟩⟩ ⟨hl, _⟩ -
  have hl : h.length ≤ 9223372036854775807 := hl
  repeat' (first | with_reducible apply andAll_cons | with_reducible apply andAll_nil | (with_reducible apply Cf.mk; kernel_rfl) | apply And.intro | intro _ | exact True.intro | apply Lf.mk)
  all_goals (try simp only [cond_and, List.drop_zero, List.take_length, Nat.zero_add] at *)
  all_goals first
    | omega
    | assumption
    | exact ch_no0 (by assumption)
    | contradiction
    | rfl
    | (have hm := (mapOk_iff.1 (by assumption : mapOk h = true)).1; omega)
    | (have hm := (mapOk_iff.1 (by assumption : mapOk h = true)).1; show Int.toNat 0 < _; simp; omega)
    | exact ch_noA (by assumption)
    | exact ch_noB (by assumption) (by assumption)
    | exact ch_fin (by assumption)
    | skip
theorem bL {P Q : Bool} (h : (bif !P then true else Q) = false) : Q = false := by revert h; cases P <;> cases Q <;> decide
theorem bL' {P Q : Bool} (h : (bif !P then true else Q) = true) (h2 : P = true) : Q = true := by revert h h2; cases P <;> cases Q <;> decide
theorem bM {X Q : Bool} (h : (bif X then true else !Q) = true) (h2 : X = false) : Q = false := by revert h h2; cases X <;> cases Q <;> decide
theorem bN {X Q : Bool} (h : (bif X then true else !Q) = false) : Q = true := by revert h; cases X <;> cases Q <;> decide
theorem ch_y0 {h : List Pt} (hm : mapOk h = true) (h2 : ((getA zP h (Int.toNat 0)).y.num != 0) = false) : (getA zP h 0).y = ⟨0, 1⟩ := by
  have h3 : (getA zP h 0).y.num = 0 := by simpa using h2
  have hl := (mapOk_iff.1 hm).1
  exact good_eq (coord_good (ptOk_iff.1 (map_pt hm (by omega))).2) good_zero (by rw [h3]; simp)
theorem ch_noy0 {h : List Pt} (h2 : ((getA zP h (Int.toNat 0)).y.num != 0) = true) : false = chOk h := by
  symm; rw [Bool.eq_false_iff]; intro hc
  have := (chOk_iff.1 hc).2.1
  have h3 : ((getA zP h 0).y.num != 0) = true := h2
  rw [this] at h3; cases h3
theorem ch_noyl {h : List Pt} (hm : mapOk h = true) (h2 : eqRt (getA zP h ((h.length : Int) - 1).toNat).y ⟨1, 1⟩ = false) : false = chOk h := by
  have hl := (mapOk_iff.1 hm).1
  symm; rw [Bool.eq_false_iff]; intro hc
  have := (chOk_iff.1 hc).2.2.1
  rw [show ((h.length : Int) - 1).toNat = h.length - 1 by omega, this] at h2
  cases h2
theorem ch_nolt {h : List Pt} {i : Nat} (hi : i + 1 < h.length) (h2 : ¬ ltR (getA zP h i).y (getA zP h (i + 1)).y) : false = chOk h := by
  symm; rw [Bool.eq_false_iff]; intro hc
  exact h2 ((chOk_iff.1 hc).2.2.2 i hi)
theorem ch_yes {h : List Pt} (hm : mapOk h = true) (h0 : (getA zP h 0).y = ⟨0, 1⟩) (h1 : eqRt (getA zP h ((h.length : Int) - 1).toNat).y ⟨1, 1⟩ = true) (h2 : ∀ i, i + 1 < h.length → ltR (getA zP h i).y (getA zP h (i + 1)).y) : true = chOk h := by
  have hl := (mapOk_iff.1 hm).1
  symm
  rw [show ((h.length : Int) - 1).toNat = h.length - 1 by omega] at h1
  exact chOk_iff.2 ⟨hm, h0, of_decide_eq_true h1, h2⟩
theorem ge_nlt {a b : Rt} (h : 0 ≤ cmpRt a b) : ¬ ltR a b := fun h2 => by have := cmpRt_neg.2 h2; omega
theorem nge_lt {a b : Rt} (h : ¬ 0 ≤ cmpRt a b) : ltR a b := cmpRt_neg.1 (by omega)
theorem ok_spec_cjGood : GSpec Tryz.prog s_spec_cjGood := by
  refine fn_known tab_ok fol (((Known.nil.cons ok_spec_imGood (by kernel_rfl)).cons ok_spec_raCmp (by kernel_rfl)).cons ok_spec_raInt (by kernel_rfl)) (by decide) Tryz.func132 ?_
  rintro ⟨(h : List Pt), ⟨⟩⟩ ⟨hl, _⟩ -
  have hl : h.length ≤ 9223372036854775807 := hl
  repeat' (first | with_reducible apply andAll_cons | with_reducible apply andAll_nil | (with_reducible apply Cf.mk; kernel_rfl) | apply And.intro | intro _ | exact True.intro | apply Lf.mk)
  all_goals (try simp only [Bool.not_eq_true', Bool.not_eq_false', Bool.not_not, decide_eq_true_eq, decide_eq_false_iff_not, beq_iff_eq, bne_iff_ne, beq_eq_false_iff_ne, bne_eq_false_iff_eq, ne_eq, Bool.and_eq_true, Bool.and_eq_false_iff, Bool.or_eq_true, Bool.or_eq_false_iff, Int.toNat_natCast, Nat.zero_add, Int.ofNat_lt, Int.ofNat_le, List.length_cons, List.length_nil, List.drop_zero, List.take_length] at *)
  all_goals first
    | omega
    | contradiction
    | (exact absurd (by assumption : true = false) (by decide))
    | assumption
    | exact ch_no0 (by assumption)
    | (have hm := (mapOk_iff.1 (by assumption : mapOk h = true)).1; omega)
    | exact ch_noy0 (bL' (by assumption) (by assumption))
    | exact ch_noyl (by assumption) (bM (by assumption) (by assumption))
    | skip
  rename_i hm q1 q2
  have hb := (mapOk_iff.1 hm).1
  have y0 := ch_y0 hm (bL q1)
  have y1 := bN q2
  refine ⟨Nat, fun i => ⟨[(3, .sc (.num .i64 ((i : Int) + 1)))], [100000], []⟩, fun i => i + 1 ≤ h.length ∧ ∀ j, j < i → ltR (getA zP h j).y (getA zP h (j + 1)).y, fun i => h.length - i, ⟨0, ⟨by omega, fun j hj => by omega⟩, ?_⟩, ?_⟩
  · repeat' (first | apply And.intro | exact True.intro | exact Lf.mk (by with_reducible rfl) | apply Lf.mk)
    all_goals rfl
  · rintro i ⟨g1, g2⟩
    repeat' (first | with_reducible apply andAll_cons | with_reducible apply andAll_nil | (with_reducible apply Cf.mk; kernel_rfl) | apply And.intro | intro _ | exact True.intro | apply Lf.mk)
    all_goals (try simp only [Bool.not_eq_true', Bool.not_eq_false', Bool.not_not, decide_eq_true_eq, decide_eq_false_iff_not, beq_iff_eq, bne_iff_ne, beq_eq_false_iff_ne, bne_eq_false_iff_eq, ne_eq, Bool.and_eq_true, Bool.and_eq_false_iff, Bool.or_eq_true, Bool.or_eq_false_iff, Int.toNat_natCast, Nat.zero_add, Int.ofNat_lt, Int.ofNat_le, List.length_cons, List.length_nil, List.drop_zero, List.take_length] at *)
    all_goals (try simp only [show ((i : Int) + 1 - 1).toNat = i by omega, show ((i : Int) + 1).toNat = i + 1 by omega] at *)
    all_goals first
      | omega
      | exact coord_good (ptOk_iff.1 (map_pt hm (by omega))).2
      | skip
    · rename_i q3 q4
      exact ch_nolt (by omega) (ge_nlt q4)
    · rename_i q3 q4
      refine ⟨i + 1, ⟨by omega, fun j hj => ?_⟩, by omega, ?_⟩
      · rcases Nat.lt_or_eq_of_le (Nat.le_of_lt_succ hj) with h7 | h7
        · exact g2 j h7
        · rw [h7]; exact nge_lt q4
      · repeat' (first | apply And.intro | exact True.intro | exact Lf.mk (by with_reducible rfl) | apply Lf.mk)
        all_goals (rw [Int.natCast_add]; rfl)
    · exact ch_yes hm y0 y1 (fun j hj => g2 j (by omega))
noncomputable def s_impl_IsChange : Sig := ⟨64, [.list .pt], [.val .bool], fun ((h : List Pt), _) => ⟨[], (chOk h, ()), ()⟩⟩
theorem ok_impl_IsChange : GSpec Tryz.prog s_impl_IsChange := by
  refine fn_known tab_ok fol (Known.nil.cons ok_impl_isChange (by kernel_rfl)) (by decide) Tryz.func64 ?_
  rintro ⟨(h : List Pt), ⟨⟩⟩ - -
  repeat' (first | with_reducible apply andAll_cons | with_reducible apply andAll_nil | (with_reducible apply Cf.mk; kernel_rfl) | apply And.intro | intro _ | exact True.intro | apply Lf.mk)
  all_goals (try simp only [Bool.not_eq_true', Bool.not_eq_false', Bool.not_not, decide_eq_true_eq, decide_eq_false_iff_not, beq_iff_eq, bne_iff_ne, beq_eq_false_iff_ne, bne_eq_false_iff_eq, ne_eq, Bool.and_eq_true, Bool.and_eq_false_iff, Bool.or_eq_true, Bool.or_eq_false_iff, Int.toNat_natCast, Nat.zero_add, Int.ofNat_lt, Int.ofNat_le, List.length_cons, List.length_nil, List.drop_zero, List.take_length] at *)
noncomputable def s_impl_exchanged : Sig := ⟨134, [.list .pt], [.list 107 .pt], fun ((f : List Pt), _) => ⟨[f.length ≤ 1000000000], (exR f, ()), ()⟩⟩
noncomputable def s_spec_cjSwap : Sig := ⟨135, [.list .pt], [.list 107 .pt], fun ((f : List Pt), _) => ⟨[f.length ≤ 1000000000], (exR f, ()), ()⟩⟩
theorem ok_impl_exchanged : GSpec Tryz.prog s_impl_exchanged := by
  refine fn_known tab_ok fol Known.nil (by decide) Tryz.func134 ?_
  rintro ⟨(f : List Pt), ⟨⟩⟩ ⟨hl, _⟩ ⟨h1, _⟩
  refine ⟨Nat, fun i => ⟨[(8, .sc (.num .i64 i)), (3, .sc (.own 7777777))], [100000], [(7777777, .row 107 .pt (exR (f.take i)))]⟩, fun i => i ≤ f.length, fun i => f.length - i, ⟨0, Nat.zero_le _, ?_⟩, ?_⟩
  · repeat' (first | apply And.intro | exact True.intro | exact Lf.mk (by with_reducible rfl) | apply Lf.mk)
    all_goals first | rfl | simp
  · intro i g1
    have hm : (exR (f.take i)).length = i := by rw [exR_length]; simp; omega
    repeat' (first | with_reducible apply andAll_cons | with_reducible apply andAll_nil | (with_reducible apply Cf.mk; kernel_rfl) | apply And.intro | intro _ | exact True.intro | apply Lf.mk)
    all_goals simp only [hm] at *
    all_goals (try simp only [Bool.not_eq_true', Bool.not_eq_false', Bool.not_not, decide_eq_true_eq, decide_eq_false_iff_not, beq_iff_eq, bne_iff_ne, beq_eq_false_iff_ne, bne_eq_false_iff_eq, ne_eq, Bool.and_eq_true, Bool.and_eq_false_iff, Bool.or_eq_true, Bool.or_eq_false_iff, Int.toNat_natCast, Nat.zero_add, Int.ofNat_lt, Int.ofNat_le, List.length_cons, List.length_nil, List.drop_zero, List.take_length] at *)
    all_goals first | omega | (show (_ + 1) * 32 ≤ 140737488355328; omega) | skip
    · refine ⟨i + 1, by omega, by omega, ?_⟩
      repeat' (first | apply And.intro | exact True.intro | exact Lf.mk (by with_reducible rfl) | apply Lf.mk)
      all_goals first | (rw [Int.natCast_add]; rfl) | exact map_take_succ (fun p : Pt => (⟨p.y, p.x⟩ : Pt)) zP f i (by assumption)
    · rw [List.take_of_length_le (by omega)]
theorem ok_spec_cjSwap : GSpec Tryz.prog s_spec_cjSwap := by
  refine fn_known tab_ok fol Known.nil (by decide) Tryz.func135 ?_
  rintro ⟨(f : List Pt), ⟨⟩⟩ ⟨hl, _⟩ ⟨h1, _⟩
  refine ⟨Nat, fun i => ⟨[(8, .sc (.num .i64 i)), (3, .sc (.own 7777777))], [100000], [(7777777, .row 107 .pt (exR (f.take i)))]⟩, fun i => i ≤ f.length, fun i => f.length - i, ⟨0, Nat.zero_le _, ?_⟩, ?_⟩
  · repeat' (first | apply And.intro | exact True.intro | exact Lf.mk (by with_reducible rfl) | apply Lf.mk)
    all_goals first | rfl | simp
  · intro i g1
    have hm : (exR (f.take i)).length = i := by rw [exR_length]; simp; omega
    repeat' (first | with_reducible apply andAll_cons | with_reducible apply andAll_nil | (with_reducible apply Cf.mk; kernel_rfl) | apply And.intro | intro _ | exact True.intro | apply Lf.mk)
    all_goals simp only [hm] at *
    all_goals (try simp only [Bool.not_eq_true', Bool.not_eq_false', Bool.not_not, decide_eq_true_eq, decide_eq_false_iff_not, beq_iff_eq, bne_iff_ne, beq_eq_false_iff_ne, bne_eq_false_iff_eq, ne_eq, Bool.and_eq_true, Bool.and_eq_false_iff, Bool.or_eq_true, Bool.or_eq_false_iff, Int.toNat_natCast, Nat.zero_add, Int.ofNat_lt, Int.ofNat_le, List.length_cons, List.length_nil, List.drop_zero, List.take_length] at *)
    all_goals first | omega | (show (_ + 1) * 32 ≤ 140737488355328; omega) | skip
    · refine ⟨i + 1, by omega, by omega, ?_⟩
      repeat' (first | apply And.intro | exact True.intro | exact Lf.mk (by with_reducible rfl) | apply Lf.mk)
      all_goals first | (rw [Int.natCast_add]; rfl) | exact map_take_succ (fun p : Pt => (⟨p.y, p.x⟩ : Pt)) zP f i (by assumption)
    · rw [List.take_of_length_le (by omega)]
noncomputable def icRes (h : List Pt) : List Pt × Bool := match chOk h with
  | true => (exR h, true)
  | false => ([], false)
theorem ic_t {h : List Pt} (hc : chOk h = true) : icRes h = (exR h, true) := by unfold icRes; rw [hc]
theorem ic_f {h : List Pt} (hc : chOk h = false) : icRes h = ([], false) := by unfold icRes; rw [hc]
theorem ch_len {h : List Pt} (hc : chOk h = true) : 2 ≤ h.length ∧ h.length ≤ 12 := (mapOk_iff.1 (chOk_iff.1 hc).1).1
theorem ic_len (h : List Pt) : (icRes h).1.length ≤ 12 := by
  cases hc : chOk h with
  | false => rw [ic_f hc]; exact Nat.zero_le _
  | true => rw [ic_t hc]; have := ch_len hc; dsimp only; rw [exR_length]; omega
noncomputable def s_impl_InverseChange : Sig := ⟨55, [.list .pt], [.list 107 .pt, .val .bool], fun ((h : List Pt), _) => ⟨[], ((icRes h).1, (icRes h).2, ()), ()⟩⟩
noncomputable def s_spec_InverseChange : Sig := ⟨56, [.list .pt], [.list 107 .pt, .val .bool], fun ((h : List Pt), _) => ⟨[], ((icRes h).1, (icRes h).2, ()), ()⟩⟩
theorem ok_impl_InverseChange : GSpec Tryz.prog s_impl_InverseChange := by
  refine fn_known tab_ok fol ((Known.nil.cons ok_impl_isChange (by kernel_rfl)).cons ok_impl_exchanged (by kernel_rfl)) (by decide) Tryz.func55 ?_
  rintro ⟨(h : List Pt), ⟨⟩⟩ - -
  repeat' (first | with_reducible apply andAll_cons | with_reducible apply andAll_nil | (with_reducible apply Cf.mk; kernel_rfl) | apply And.intro | intro _ | exact True.intro | apply Lf.mk)
  all_goals (try simp only [Bool.not_eq_true', Bool.not_eq_false', Bool.not_not, decide_eq_true_eq, decide_eq_false_iff_not, beq_iff_eq, bne_iff_ne, beq_eq_false_iff_ne, bne_eq_false_iff_eq, ne_eq, Bool.and_eq_true, Bool.and_eq_false_iff, Bool.or_eq_true, Bool.or_eq_false_iff, Int.toNat_natCast, Nat.zero_add, Int.ofNat_lt, Int.ofNat_le, List.length_cons, List.length_nil, List.drop_zero, List.take_length] at *)
  all_goals first | (rw [ic_f (by assumption)]; done) | (rw [ic_t (by assumption)]; done) | (have := ch_len (by assumption); omega) | skip
theorem ok_spec_InverseChange : GSpec Tryz.prog s_spec_InverseChange := by
  refine fn_known tab_ok fol ((Known.nil.cons ok_spec_cjGood (by kernel_rfl)).cons ok_spec_cjSwap (by kernel_rfl)) (by decide) Tryz.func56 ?_
  rintro ⟨(h : List Pt), ⟨⟩⟩ - -
  repeat' (first | with_reducible apply andAll_cons | with_reducible apply andAll_nil | (with_reducible apply Cf.mk; kernel_rfl) | apply And.intro | intro _ | exact True.intro | apply Lf.mk)
  all_goals (try simp only [Bool.not_eq_true', Bool.not_eq_false', Bool.not_not, decide_eq_true_eq, decide_eq_false_iff_not, beq_iff_eq, bne_iff_ne, beq_eq_false_iff_ne, bne_eq_false_iff_eq, ne_eq, Bool.and_eq_true, Bool.and_eq_false_iff, Bool.or_eq_true, Bool.or_eq_false_iff, Int.toNat_natCast, Nat.zero_add, Int.ofNat_lt, Int.ofNat_le, List.length_cons, List.length_nil, List.drop_zero, List.take_length] at *)
  all_goals first | (rw [ic_f (by assumption)]; done) | (rw [ic_t (by assumption)]; done) | (have := ch_len (by assumption); omega) | skip
noncomputable def s_calc_back : Sig := ⟨200, [.cell cT .bool, .val .pt, .val .pt, .val .rat], [.val .rat], fun ((c : Bool), (p : Pt), (q : Pt), (y : Rt), _) => ⟨[ptOk p = true, ptOk q = true, ltR p.x q.x, goodRt y = true], (backO p (slR p q) y, ()), (c || !(backR p (slR p q) y).2, ())⟩⟩
theorem ok_calc_back : GSpec Tryz.prog s_calc_back := by
  refine fn_known tab_ok fol ((((Known.nil.cons ok_calc_sub (by kernel_rfl)).cons ok_calc_slope (by kernel_rfl)).cons ok_calc_div (by kernel_rfl)).cons ok_calc_add (by kernel_rfl)) (by decide) Tryz.func200 ?_
  rintro ⟨(c : Bool), ⟨⟨(n : Int), (d : Int)⟩, ⟨(m : Int), (e : Int)⟩⟩, ⟨⟨(n' : Int), (d' : Int)⟩, ⟨(m' : Int), (e' : Int)⟩⟩, ⟨(n2 : Int), (d2 : Int)⟩, ⟨⟩⟩ - ⟨h1, h2, h3, h4, _⟩
  obtain ⟨s1, s2, s3⟩ := slR_ok h1 h2 h3
  have hp := ptOk_iff.1 h1
  have g1 := coord_good hp.1
  have g2 := coord_good hp.2
  have hf := back_flag c ⟨⟨n, d⟩, ⟨m, e⟩⟩ (slR ⟨⟨n, d⟩, ⟨m, e⟩⟩ ⟨⟨n', d'⟩, ⟨m', e'⟩⟩) ⟨n2, d2⟩
  dsimp only at *
  repeat' (first | with_reducible apply andAll_cons | with_reducible apply andAll_nil | (with_reducible apply Cf.mk; kernel_rfl) | apply And.intro | intro _ | exact True.intro | apply Lf.mk)
  all_goals first | assumption | exact opR_good | exact hf | rfl | skip
noncomputable def s_spec_imBack : Sig := ⟨201, [.val .pt, .val .pt, .val .rat], [.val .rat, .val .bool], fun ((p : Pt), (q : Pt), (y : Rt), _) => ⟨[ptOk p = true, ptOk q = true, ltR p.x q.x, goodRt y = true], ((backR p (slR p q) y).1, (backR p (slR p q) y).2, ()), ()⟩⟩
theorem ok_spec_imBack : GSpec Tryz.prog s_spec_imBack := by
  refine fn_known tab_ok fol ((((Known.nil.cons ok_spec_raSub (by kernel_rfl)).cons ok_spec_imSlope (by kernel_rfl)).cons ok_spec_raDiv (by kernel_rfl)).cons ok_spec_raAdd (by kernel_rfl)) (by decide) Tryz.func201 ?_
  rintro ⟨⟨⟨(n : Int), (d : Int)⟩, ⟨(m : Int), (e : Int)⟩⟩, ⟨⟨(n' : Int), (d' : Int)⟩, ⟨(m' : Int), (e' : Int)⟩⟩, ⟨(n2 : Int), (d2 : Int)⟩, ⟨⟩⟩ - ⟨h1, h2, h3, h4, _⟩
  obtain ⟨s1, s2, s3⟩ := slR_ok h1 h2 h3
  have hp := ptOk_iff.1 h1
  have g1 := ok_good (coord_good hp.1)
  have g2 := ok_good (coord_good hp.2)
  have g3 := ok_good h4
  have g4 := ok_good s2
  dsimp only at *
  repeat' (first | with_reducible apply andAll_cons | with_reducible apply andAll_nil | (with_reducible apply Cf.mk; kernel_rfl) | apply And.intro | intro _ | exact True.intro | apply Lf.mk)
  all_goals (try simp only [Bool.not_eq_true', Bool.not_eq_false', Bool.not_not, decide_eq_true_eq, decide_eq_false_iff_not, beq_iff_eq, bne_iff_ne, beq_eq_false_iff_ne, bne_eq_false_iff_eq, ne_eq, Bool.and_eq_true, Bool.and_eq_false_iff, Bool.or_eq_true, Bool.or_eq_false_iff, Int.toNat_natCast, Nat.zero_add, Int.ofNat_lt, Int.ofNat_le, List.length_cons, List.length_nil, List.drop_zero, List.take_length] at *)
  all_goals first | assumption | exact lowRt_ok | skip
  · rename_i q1; exact congrArg Prod.fst (backR_1 (p := ⟨⟨n, d⟩, ⟨m, e⟩⟩) (s := slR ⟨⟨n, d⟩, ⟨m, e⟩⟩ ⟨⟨n', d'⟩, ⟨m', e'⟩⟩) (y := ⟨n2, d2⟩) q1).symm
  · rename_i q1; exact congrArg Prod.snd (backR_1 (p := ⟨⟨n, d⟩, ⟨m, e⟩⟩) (s := slR ⟨⟨n, d⟩, ⟨m, e⟩⟩ ⟨⟨n', d'⟩, ⟨m', e'⟩⟩) (y := ⟨n2, d2⟩) q1).symm
  · rename_i q1 q2; exact congrArg Prod.fst (backR_2 (p := ⟨⟨n, d⟩, ⟨m, e⟩⟩) (s := slR ⟨⟨n, d⟩, ⟨m, e⟩⟩ ⟨⟨n', d'⟩, ⟨m', e'⟩⟩) (y := ⟨n2, d2⟩) q1 q2).symm
  · rename_i q1 q2; exact congrArg Prod.snd (backR_2 (p := ⟨⟨n, d⟩, ⟨m, e⟩⟩) (s := slR ⟨⟨n, d⟩, ⟨m, e⟩⟩ ⟨⟨n', d'⟩, ⟨m', e'⟩⟩) (y := ⟨n2, d2⟩) q1 q2).symm
  · rename_i q1 q2; exact congrArg Prod.fst (backR_3 (p := ⟨⟨n, d⟩, ⟨m, e⟩⟩) (s := slR ⟨⟨n, d⟩, ⟨m, e⟩⟩ ⟨⟨n', d'⟩, ⟨m', e'⟩⟩) (y := ⟨n2, d2⟩) q1 q2).symm
  · rename_i q1 q2; exact congrArg Prod.snd (backR_3 (p := ⟨⟨n, d⟩, ⟨m, e⟩⟩) (s := slR ⟨⟨n, d⟩, ⟨m, e⟩⟩ ⟨⟨n', d'⟩, ⟨m', e'⟩⟩) (y := ⟨n2, d2⟩) q1 q2).symm
noncomputable def s_calc_changeBack : Sig := ⟨131, [.cell cT .bool, .list .pt, .val .rat], [.val .rat], fun ((c : Bool), (h : List Pt), (y : Rt), _) => ⟨[chOk h = true, unitRt y = true], (chO h y, ()), (c || !(chB h y).2, ())⟩⟩
theorem ok_calc_changeBack : GSpec Tryz.prog s_calc_changeBack := by
  refine fn_known tab_ok fol (((Known.nil.cons ok_impl_exchanged (by kernel_rfl)).cons ok_impl_pieceAt (by kernel_rfl)).cons ok_calc_back (by kernel_rfl)) (by decide) Tryz.func131 ?_
  rintro ⟨(c : Bool), (h : List Pt), ⟨(n : Int), (d : Int)⟩, ⟨⟩⟩ ⟨hl, _⟩ ⟨h1, h2, _⟩
  obtain ⟨p1, p2, p3⟩ := ch_piece h1 h2
  obtain ⟨k1, k2, k3, k4⟩ := chOk_iff.1 h1
  obtain ⟨m1, m2, m3, m4, m5⟩ := mapOk_iff.1 k1
  have a1 := map_pt k1 (i := pcN (exR h) ⟨n, d⟩) (by omega)
  have a2 := map_pt k1 (i := pcN (exR h) ⟨n, d⟩ + 1) (by omega)
  have e1 : ∀ p ∈ exR h, goodRt p.x = true := fun p hp => coord_good (ptOk_iff.1 ((mapOk_iff.1 (ex_map h1)).2.1 p hp)).1
  repeat' (first | with_reducible apply andAll_cons | with_reducible apply andAll_nil | (with_reducible apply Cf.mk; kernel_rfl) | apply And.intro | intro _ | exact True.intro | apply Lf.mk)
  all_goals (try simp only [Bool.not_eq_true', Bool.not_eq_false', Bool.not_not, decide_eq_true_eq, decide_eq_false_iff_not, beq_iff_eq, bne_iff_ne, beq_eq_false_iff_ne, bne_eq_false_iff_eq, ne_eq, Bool.and_eq_true, Bool.and_eq_false_iff, Bool.or_eq_true, Bool.or_eq_false_iff, Int.toNat_natCast, Nat.zero_add, Int.ofNat_lt, Int.ofNat_le, List.length_cons, List.length_nil, List.drop_zero, List.take_length] at *)
  all_goals (try simp only [Int.toNat_natCast, succ_nat] at *)
  all_goals first | omega | assumption | exact e1 _ (by assumption) | exact unit_good h2 | exact m5 _ p1 | (unfold chO; rfl) | (unfold chB; rfl) | rfl | skip
noncomputable def s_spec_cjBack : Sig := ⟨133, [.list .pt, .val .rat], [.val .rat, .val .bool], fun ((h : List Pt), (y : Rt), _) => ⟨[chOk h = true, unitRt y = true], ((chB h y).1, (chB h y).2, ()), ()⟩⟩
theorem one_nlt {y : Rt} (h : unitRt y = true) (h2 : ltR ⟨1, 1⟩ y) : False := by
  have h3 := unitRt_iff.1 h
  have h4 : (1 : Int) * y.den < y.num * 1 := h2
  omega
theorem ok_spec_cjBack : GSpec Tryz.prog s_spec_cjBack := by
  refine fn_known tab_ok fol ((Known.nil.cons ok_spec_raCmp (by kernel_rfl)).cons ok_spec_imBack (by kernel_rfl)) (by decide) Tryz.func133 ?_
  rintro ⟨(h : List Pt), ⟨(n : Int), (d : Int)⟩, ⟨⟩⟩ ⟨hl, _⟩ ⟨h1, h2, _⟩
  obtain ⟨k1, k2, k3, k4⟩ := chOk_iff.1 h1
  obtain ⟨m1, m2, m3, m4, m5⟩ := mapOk_iff.1 k1
  refine ⟨Nat, fun i => ⟨[(6, .sc (.num .i64 ((i : Int) + 1)))], [100000, 3, 4], []⟩, fun i => i + 1 < h.length ∧ ∀ j, 0 < j → j ≤ i → ltR (getA zP h j).y ⟨n, d⟩, fun i => h.length - i, ⟨0, ⟨by omega, fun j hj hj2 => by omega⟩, ?_⟩, ?_⟩
  · repeat' (first | apply And.intro | exact True.intro | exact Lf.mk (by with_reducible rfl) | apply Lf.mk)
    all_goals rfl
  · rintro i ⟨g1, g2⟩
    repeat' (first | with_reducible apply andAll_cons | with_reducible apply andAll_nil | (with_reducible apply Cf.mk; kernel_rfl) | apply And.intro | intro _ | exact True.intro | apply Lf.mk)
    all_goals (try simp only [Bool.not_eq_true', Bool.not_eq_false', Bool.not_not, decide_eq_true_eq, decide_eq_false_iff_not, beq_iff_eq, bne_iff_ne, beq_eq_false_iff_ne, bne_eq_false_iff_eq, ne_eq, Bool.and_eq_true, Bool.and_eq_false_iff, Bool.or_eq_true, Bool.or_eq_false_iff, Int.toNat_natCast, Nat.zero_add, Int.ofNat_lt, Int.ofNat_le, List.length_cons, List.length_nil, List.drop_zero, List.take_length] at *)
    all_goals (try simp only [show ((i : Int) + 1 - 1).toNat = i by omega, show ((i : Int) + 1).toNat = i + 1 by omega] at *)
    all_goals first
      | omega
      | exact unit_good h2
      | exact coord_good (ptOk_iff.1 (map_pt k1 (by omega))).2
      | exact map_pt k1 (by omega)
      | exact m5 i g1
      | skip
    · rename_i q1
      have q2 : ltR (getA zP h (i + 1)).y ⟨n, d⟩ := cmpRt_neg.1 q1
      have hi : i + 2 < h.length := by
        rcases Nat.lt_or_ge (i + 2) h.length with h5 | h5
        · exact h5
        · rw [show i + 1 = h.length - 1 by omega, k3] at q2
          exact (one_nlt h2 q2).elim
      refine ⟨i + 1, ⟨by omega, fun j hj hj2 => ?_⟩, by omega, ?_⟩
      · rcases Nat.lt_or_eq_of_le hj2 with h7 | h7
        · exact g2 j hj (by omega)
        · rw [h7]; exact q2
      · repeat' (first | apply And.intro | exact True.intro | exact Lf.mk (by with_reducible rfl) | apply Lf.mk)
        all_goals (rw [Int.natCast_add]; rfl)
    all_goals
      have q2 : ¬ ltR (getA zP h (i + 1)).y ⟨n, d⟩ := fun h5 => (by assumption : ¬ cmpRt _ _ < 0) (cmpRt_neg.2 h5)
      have e : i = pcN (exR h) ⟨n, d⟩ := pc_uniq (ex_map h1) h2 (fun j hj hj2 => by rw [exR_get (by omega)]; exact g2 j hj hj2) (fun h5 => by rw [exR_get (by omega)] at h5; exact q2 h5.2) (by rw [exR_length]; exact g1)
      first
        | (unfold chB; rw [← e]; done)
        | (unfold chB; rw [← e]; rfl)
end Go.Vx
namespace Go.Proofs
open Go.Shelf
def Tryz.sortRat_ren : Go.Shelf.Ren := ⟨fun | 6 => 174 | 15 => 224 | 14 => 223 | 28 => 246 | 29 => 247 | 20 => 238 | 21 => 239 | 22 => 240 | 23 => 241 | 24 => 242 | 25 => 243 | 26 => 244 | 27 => 245 | 46 => 250 | 47 => 251 | 48 => 252 | 49 => 253 | 50 => 254 | 57 => 256 | n => n, fun | 22 => 42 | 24 => 26 | 25 => 105 | 3 => 3 | 39 => 172 | 0 => 0 | 53 => 183 | 55 => 91 | 4 => 4 | 46 => 177 | 45 => 176 | 50 => 40 | 5 => 5 | 9 => 9 | 66 => 187 | 70 => 191 | 76 => 193 | 77 => 194 | n => n, fun | n => n⟩
theorem Tryz.sortRat : Go.Proofs.SlLaysF0.n6 Tryz.prog Tryz.sortRat_ren := {
  mixed := by kernel_rfl,
  f6 := ⟨Tryz.f174.name, by decide, Tryz.func174.trans (congrArg some (by kernel_rfl))⟩,
  f14 := ⟨Tryz.f223.name, by decide, Tryz.func223.trans (congrArg some (by kernel_rfl))⟩,
  f15 := Tryz.func224.trans (congrArg some (by kernel_rfl)),
  f20 := ⟨Tryz.f238.name, by decide, Tryz.func238.trans (congrArg some (by kernel_rfl))⟩,
  f21 := ⟨Tryz.f239.name, by decide, Tryz.func239.trans (congrArg some (by kernel_rfl))⟩,
  f22 := ⟨Tryz.f240.name, by decide, Tryz.func240.trans (congrArg some (by kernel_rfl))⟩,
  f23 := ⟨Tryz.f241.name, by decide, Tryz.func241.trans (congrArg some (by kernel_rfl))⟩,
  f24 := ⟨Tryz.f242.name, by decide, Tryz.func242.trans (congrArg some (by kernel_rfl))⟩,
  f25 := ⟨Tryz.f243.name, by decide, Tryz.func243.trans (congrArg some (by kernel_rfl))⟩,
  f26 := ⟨Tryz.f244.name, by decide, Tryz.func244.trans (congrArg some (by kernel_rfl))⟩,
  f27 := ⟨Tryz.f245.name, by decide, Tryz.func245.trans (congrArg some (by kernel_rfl))⟩,
  f28 := Tryz.func246.trans (congrArg some (by kernel_rfl)),
  f29 := Tryz.func247.trans (congrArg some (by kernel_rfl)),
  f46 := ⟨Tryz.f250.name, by decide, Tryz.func250.trans (congrArg some (by kernel_rfl))⟩,
  f47 := Tryz.func251.trans (congrArg some (by kernel_rfl)),
  f48 := Tryz.func252.trans (congrArg some (by kernel_rfl)),
  f49 := ⟨Tryz.f253.name, by decide, Tryz.func253.trans (congrArg some (by kernel_rfl))⟩,
  f50 := ⟨Tryz.f254.name, by decide, Tryz.func254.trans (congrArg some (by kernel_rfl))⟩,
  f57 := ⟨Tryz.f256.name, by decide, Tryz.func256.trans (congrArg some (by kernel_rfl))⟩,
  t0 := Tryz.underlying0,
  a0 := Tryz.isAgg0,
  z0 := Tryz.sizeOf0,
  v0 := Tryz.zeroValue0,
  t3 := Tryz.underlying3,
  a3 := Tryz.isAgg3,
  z3 := Tryz.sizeOf3,
  v3 := Tryz.zeroValue3,
  t4 := Tryz.underlying4,
  a4 := Tryz.isAgg4,
  z4 := Tryz.sizeOf4,
  v4 := Tryz.zeroValue4,
  t5 := Tryz.underlying5,
  a5 := Tryz.isAgg5,
  z5 := Tryz.sizeOf5,
  v5 := Tryz.zeroValue5,
  t9 := Tryz.underlying9,
  a9 := Tryz.isAgg9,
  z9 := Tryz.sizeOf9,
  v9 := Tryz.zeroValue9,
  t22 := Tryz.underlying42,
  a22 := Tryz.isAgg42,
  z22 := Tryz.sizeOf42,
  v22 := Tryz.zeroValue42,
  t25 := Tryz.underlying105,
  a25 := Tryz.isAgg105,
  z25 := Tryz.sizeOf105,
  v25 := Tryz.zeroValue105,
  t39 := Tryz.underlying172,
  a39 := Tryz.isAgg172,
  z39 := Tryz.sizeOf172,
  v39 := Tryz.zeroValue172,
  t45 := Tryz.underlying176,
  a45 := Tryz.isAgg176,
  z45 := Tryz.sizeOf176,
  v45 := Tryz.zeroValue176,
  t46 := Tryz.underlying177,
  a46 := Tryz.isAgg177,
  z46 := Tryz.sizeOf177,
  v46 := Tryz.zeroValue177,
  t50 := Tryz.underlying40,
  a50 := Tryz.isAgg40,
  z50 := Tryz.sizeOf40,
  v50 := Tryz.zeroValue40,
  t53 := Tryz.underlying183,
  a53 := Tryz.isAgg183,
  z53 := Tryz.sizeOf183,
  v53 := Tryz.zeroValue183,
  t55 := Tryz.underlying91,
  a55 := Tryz.isAgg91,
  z55 := Tryz.sizeOf91,
  v55 := Tryz.zeroValue91,
  t66 := Tryz.underlying187,
  a66 := Tryz.isAgg187,
  z66 := Tryz.sizeOf187,
  v66 := Tryz.zeroValue187,
  t70 := Tryz.underlying191,
  a70 := Tryz.isAgg191,
  z70 := Tryz.sizeOf191,
  v70 := Tryz.zeroValue191,
  t76 := Tryz.underlying193,
  a76 := Tryz.isAgg193,
  z76 := Tryz.sizeOf193,
  v76 := Tryz.zeroValue193,
  t77 := Tryz.underlying194,
  a77 := Tryz.isAgg194,
  z77 := Tryz.sizeOf194,
  v77 := Tryz.zeroValue194 }
end Go.Proofs
namespace Go.Vx
open Go Go.Proofs Go.Shelf Go.RowKit Go.Sort
set_option maxRecDepth 100000
set_option linter.unusedSimpArgs false
set_option linter.unusedVariables false

abbrev GR := {r : Rt // goodRt r = true}
instance : Inhabited GR := ⟨⟨⟨0, 1⟩, good_zero⟩⟩
def encG (x : GR) : List Value := valCells .rat x.1
def cmpG (x y : GR) : Int := cmpRt x.1 y.1
theorem encG_len (x : GR) : (encG x).length = 2 := valCells_length .rat x.1
theorem encG_one (x : GR) : ∀ v ∈ encG x, v.oneCell' = true := valCells_one .rat x.1
theorem ltG (x y : GR) : ltOf cmpG x y = lessRt x.1 y.1 := cmp_less x.1 y.1
theorem swoG : SWO (ltOf cmpG) where
  irrefl x := by rw [ltG, less_q_f x.2 x.2]; grind
  trans x y z h1 h2 := by rw [ltG, less_q x.2 y.2] at h1; rw [ltG, less_q y.2 z.2] at h2; rw [ltG, less_q x.2 z.2]; grind
  ntrans x y z h1 h2 := by rw [ltG, less_q_f x.2 y.2] at h1; rw [ltG, less_q_f y.2 z.2] at h2; rw [ltG, less_q_f x.2 z.2]; grind

theorem flatK_list (d : Array GR) : (flatK encG 2 d).toList = flat .rat (d.toList.map (·.1)) := by
  apply List.ext_getElem?
  intro t
  by_cases ht : t < d.size * 2
  · have h1 : (flat .rat (d.toList.map (·.1)))[t / 2 * VK.size .rat + t % 2]? = (valCells .rat ((d.toList.map (·.1)).getD (t / 2) (VK.dflt .rat)))[t % 2]? :=
      flat_get .rat _ (t / 2) (t % 2) (by simp; omega) (Nat.mod_lt _ (by decide))
    have e : t / 2 * VK.size .rat + t % 2 = t := by show t / 2 * 2 + t % 2 = t; omega
    rw [e] at h1
    rw [h1]
    have h2 := get_flatK encG 2 d t ht
    have hs : t < (flatK encG 2 d).size := by rw [size_flatK]; exact ht
    rw [getElem!_pos _ t hs] at h2
    rw [Array.getElem?_toList, Array.getElem?_eq_getElem hs, h2]
    have hd : t / 2 < d.size := by omega
    have e2 : (d.toList.map (·.1)).getD (t / 2) (VK.dflt .rat) = (d[t / 2]!).1 := by
      rw [getElem!_pos d _ hd]
      simp [List.getD, hd]
    have hl : t % 2 < (encG d[t / 2]!).length := by rw [encG_len]; exact Nat.mod_lt _ (by decide)
    rw [e2, getElem!_pos (encG d[t / 2]!) (t % 2) hl]
    exact (List.getElem?_eq_getElem hl).symm
  · rw [List.getElem?_eq_none (by rw [Array.length_toList, size_flatK]; omega), List.getElem?_eq_none (by rw [flat_length]; simp [VK.size]; omega)]

/-- the fractions of a row, as good ones -/
def goodL (xs : List Rt) (h : Gd xs) : List GR := xs.attach.map fun x => ⟨x.1, h x.1 x.2⟩
theorem goodL_val (xs : List Rt) (h : Gd xs) : (goodL xs h).map (·.1) = xs := by
  unfold goodL; simp

theorem pair_of_sorted {d : Array GR} {n : Nat} (hn : n = d.size) (h : SortedIn (ltOf cmpG) 0 n d) : ∀ i, i + 1 < (d.toList.map (·.1)).length → qR (getA zR (d.toList.map (·.1)) i) ≤ qR (getA zR (d.toList.map (·.1)) (i + 1)) := by
  intro i hi
  simp only [List.length_map, Array.length_toList] at hi
  have h1 := h i (i + 1) (by omega) (by omega) (by omega)
  rw [ltG, less_q_f (d[i + 1]!).2 (d[i]!).2] at h1
  have e : ∀ j, j < d.size → getA zR (d.toList.map (·.1)) j = (d[j]!).1 := fun j hj => by
    rw [getA_eq, getElem!_pos d _ hj]; simp [List.getD, hj]
  rw [e i (by omega), e (i + 1) hi]
  exact h1

theorem kept_sort {w : World} {g n : Nat} {F : Array Value} {os : Array Obj} : Kept (fun b => b = g) w (grow (Sort.putRow id (Sort.ahead w n) g 0 F) os) := by
  refine ⟨rfl, rfl, rfl, ?_, fun k hk hne => ?_⟩
  · show w.heap.size ≤ ((w.heap.modify g _) ++ os).size
    rw [Array.size_append, Array.size_modify]; omega
  · show ((w.heap.modify g _) ++ os)[k]? = _
    rw [Array.getElem?_append, if_pos (by rw [Array.size_modify]; exact hk), Array.getElem?_modify, if_neg (Ne.symm hne)]

theorem heap_sort {w : World} {g n : Nat} {F : Array Value} {os : Array Obj} {cur : Array Value} {e : TypeId} {fz : Nat × Nat} (h : w.heap[g]? = some (.cells cur e fz)) :
    (grow (Sort.putRow id (Sort.ahead w n) g 0 F) os).heap[g]? = some (.cells (putCells id 0 F cur) e fz) := by
  have hlt : g < w.heap.size := (Array.getElem?_eq_some_iff.1 h).1
  show ((w.heap.modify g _) ++ os)[g]? = _
  rw [Array.getElem?_append, if_pos (by rw [Array.size_modify]; exact hlt), Array.getElem?_modify, if_pos rfl, h]
  rfl

theorem put_take (F cur : Array Value) (h : F.size ≤ cur.size) : (putCells id 0 F cur).toList.take F.size = F.toList := by
  apply List.ext_getElem?
  intro t
  by_cases ht : t < F.size
  · rw [List.getElem?_take, if_pos ht, Array.getElem?_toList, putCells, Array.getElem?_mapIdx, Array.getElem?_eq_getElem (by omega), Option.map_some, if_pos (by omega), Nat.sub_zero, getElem!_pos F t ht, Array.getElem?_toList, Array.getElem?_eq_getElem ht]
    rfl
  · rw [List.getElem?_eq_none (by rw [List.length_take]; omega), List.getElem?_eq_none (by rw [Array.length_toList]; omega)]

variable {P : Program} {ρ : Shelf.Ren}
/-- A row that is the caller's own, sorted in place. -/
theorem sort_own (L : SlLaysF0.n6 P ρ) (aE : ∀ w, (isAgg (ρ.t 24)).run P w = .ok true w) (zE : ∀ w, (Go.sizeOf (ρ.t 24)).run P w = .ok 2 w) (c : Nat)
    (ec : ∀ args w, (callFunc c args).run P w = .ok (.enter c args) w)
    (hc : ∀ (x y : GR) (W : World), Calls P c #[.agg (encG x).toArray, .agg (encG y).toArray] W fun e w' => e = .returned (.int .i64 (cmpG x y)) ∧ ∃ q os', w' = grow (W.drewN q) os')
    {w : World} {e : TypeId} {v : Value} {xs : List Rt} (hg : Gd xs) (hsz : xs.length ≤ 1000000) (ho : w.ownsRow 0 e 2 v xs.length (flat .rat xs)) :
    Calls P (ρ.f 6) #[v, .func (.func c) #[] #[]] w fun r w' => r = .returned (.tuple #[]) ∧ ∃ ys : List Rt, ys.Perm xs ∧ (∀ i, i + 1 < ys.length → qR (getA zR ys i) ≤ qR (getA zR ys (i + 1))) ∧
      w'.ownsRow 0 e 2 v ys.length (flat .rat ys) ∧ Kept (fun b => some b = v.ownBlock) w w' := by
  have hno : ∀ (p : Option Addr) (cap : Nat), xs = [] → v = .slice p 0 cap → Calls P (ρ.f 6) #[v, .func (.func c) #[] #[]] w fun r w' => r = .returned (.tuple #[]) ∧ ∃ ys : List Rt, ys.Perm xs ∧ (∀ i, i + 1 < ys.length → qR (getA zR ys i) ≤ qR (getA zR ys (i + 1))) ∧
      w'.ownsRow 0 e 2 v ys.length (flat .rat ys) ∧ Kept (fun b => some b = v.ownBlock) w w' := by
    intro p cap hx hv
    rw [hv]
    refine (AnyF.slices_SortFunc_none L p cap _ w).mono ?_
    rintro r w' ⟨rfl, rfl⟩
    refine ⟨rfl, [], by rw [hx], fun i h => by simp at h, ?_, Kept.refl _ _⟩
    rw [hx, hv] at ho
    exact ho
  rcases ho.2 with ⟨hv, hn⟩ | ⟨g, cap, cur, hv, hb, hh, hnc, hcm, hcs, htake⟩
  · exact hno _ _ (List.eq_nil_of_length_eq_zero hn) hv
  · rcases Nat.eq_zero_or_pos xs.length with h0 | hpos
    · exact hno _ _ (List.eq_nil_of_length_eq_zero h0) (by rw [hv, h0])
    · let d : Array GR := (goodL xs hg).toArray
      have hdl : d.toList.map (·.1) = xs := by show (goodL xs hg).map (·.1) = xs; exact goodL_val xs hg
      have hds : d.size = xs.length := by rw [← hdl, List.length_map, Array.length_toList]
      have hfl : (flatK encG 2 d).toList = flat .rat xs := by rw [flatK_list, hdl]
      have hH : HoldsK encG 2 w g 0 d := by
        intro j hj
        rw [size_flatK] at hj
        have hj2 : j < cur.size := by rw [hcs]; omega
        refine ⟨?_, ?_⟩
        · show World.cell? w ⟨g, 0 + j, none⟩ = _
          rw [Nat.zero_add]
          have hs : j < (flatK encG 2 d).size := by rw [size_flatK]; exact hj
          have e1 : (flatK encG 2 d)[j]? = cur[j]? := by
            rw [← Array.getElem?_toList, hfl, ← htake, List.getElem?_take, if_pos (by rw [← hds]; exact hj), Array.getElem?_toList]
          rw [getElem!_pos _ j hs]
          have e2 : cur[j]? = some (flatK encG 2 d)[j] := by rw [← e1, Array.getElem?_eq_getElem hs]
          simp [World.cell?, hh, e2]
        · simp [World.frozen?, hh]
      have hlt : g < w.heap.size := (Array.getElem?_eq_some_iff.1 hh).1
      have hcon := AnyQ.slices_SortFunc L 2 aE zE encG encG_len encG_one cmpG swoG c #[] g 0 cap d w ec (fun _ _ _ _ x y => hc x y _) hH hlt (by rw [hds]; omega)
      rw [hds, ← hv] at hcon
      refine hcon.mono ?_
      rintro r w' ⟨rfl, d', n, os, hp, hs, rfl⟩
      obtain ⟨p1, _, p3⟩ := hp
      have e1 : d'.extract 0 xs.length = d' := by rw [← hds, ← p1]; exact Array.extract_size
      have e0 : d.extract 0 xs.length = d := by rw [← hds]; exact Array.extract_size
      rw [e1, e0] at p3
      have p4 : (d'.toList.map (·.1)).Perm xs := by rw [← hdl]; exact p3.map _
      refine ⟨rfl, d'.toList.map (·.1), p4, pair_of_sorted (by rw [p1, hds]) hs, ?_, ?_⟩
      · have hl : (d'.toList.map (·.1)).length = xs.length := p4.length_eq
        rw [hl]
        refine ⟨by rw [flat_length, hl]; rfl, .inr ⟨g, cap, putCells id 0 (flatK encG 2 d') cur, hv, hb, ?_, hnc, hcm, ?_, ?_⟩⟩
        · exact heap_sort hh
        · rw [← hcs]; simp [putCells]
        · have hF : (flatK encG 2 d').size = xs.length * 2 := by rw [size_flatK, p1, hds]
          rw [← flatK_list, ← hF]
          exact put_take _ _ (by rw [hF, hcs]; exact Nat.mul_le_mul_right _ hnc)
      · refine (kept_sort (w := w) (g := g)).mono fun k _ h => ?_
        rw [h, hv]; rfl
end Go.Vx
