/- Intervals and their images in plain arithmetic. -/
import Derived.Test.YtjiafbjoijffjaaGreatPk14
import Derived.Test.YtjiafbjoijffjaaGreatPk13
import Derived.Test.YtjiafbjoijffjaaGreatPk12
namespace Go.Vx
open Go
set_option maxRecDepth 100000
set_option linter.unusedSimpArgs false
set_option linter.unusedVariables false

theorem low_zero {d : Int} (h : d ≠ 0) (h1 : -1000000000000000000 ≤ d ∧ d ≤ 1000000000000000000) : lowRt 0 d = (⟨0, 1⟩, true) := by
  have hg : gsgn 0 d = d := by
    unfold gsgn
    rw [Int.gcd_zero_left]
    split <;> omega
  have e : (⟨(0 : Int).tdiv (gsgn 0 d), d.tdiv (gsgn 0 d)⟩ : Rt) = ⟨0, 1⟩ := by
    rw [hg, Int.zero_tdiv, Int.tdiv_self h]
  have : goodRt ⟨(0 : Int).tdiv (gsgn 0 d), d.tdiv (gsgn 0 d)⟩ = true := by rw [e]; exact good_zero
  rw [lowRt_t this, e]
theorem div_zero_l {s : Rt} (hs : goodRt s = true) (h : s.num ≠ 0) : divRt ⟨0, 1⟩ s = (⟨0, 1⟩, true) := by
  rw [goodRt_iff] at hs
  unfold divRt
  dsimp only
  rw [Int.zero_mul, Int.one_mul]
  exact low_zero h (by omega)
theorem backO_unit {p q : Pt} {y : Rt} (hp : ptOk p = true) (hq : ptOk q = true) (h : ltR p.x q.x) (hy : goodRt y = true) (hc : crP p q y = true) : unitRt (backO p (slR p q) y) = true := by
  have gx := coord_good (ptOk_iff.1 hp).1
  have ux := coord_unit (ptOk_iff.1 hp).1
  obtain ⟨s1, s2, s3⟩ := slR_ok hp hq h
  cases ho : (backR p (slR p q) y).2 with
  | true => rw [backO_t ho]; exact cross_unit hp hq h hy hc ho
  | false =>
    unfold backO
    cases e1 : (subRt y p.y).2 with
    | false =>
      rw [opR_f e1]
      by_cases h0 : (slR p q).num = 0
      · exfalso
        have hc' : cmpRt p.y y * cmpRt q.y y < 0 := of_decide_eq_true hc
        have gy := coord_good (ptOk_iff.1 hp).2
        have gY := coord_good (ptOk_iff.1 hq).2
        have z : qR (slR p q) = 0 := by
          have a := q_negR s2
          have b := q_pos s2
          by_cases h5 : qR (slR p q) < 0
          · have := a.2 h5; omega
          · by_cases h6 : 0 < qR (slR p q)
            · have := b.2 h6; omega
            · grind
        rw [z] at s3
        have e : p.y = q.y := q_inj gy gY (by grind)
        rw [← e] at hc'
        rcases cmp_1 p.y y with h5 | h5 | h5 <;> rw [h5] at hc' <;> revert hc' <;> decide
      · rw [div_zero_l s2 h0, opR_p, add_zero_r gx, opR_p]; exact ux
    | true =>
      cases e2 : (divRt (opR (subRt y p.y)) (slR p q)).2 with
      | false => rw [opR_f e2, add_zero_r gx, opR_p]; exact ux
      | true =>
        cases e3 : (addRt p.x (opR (divRt (opR (subRt y p.y)) (slR p q)))).2 with
        | false => rw [opR_f e3]; exact unit_zero
        | true =>
          exfalso
          have := back_flag false p (slR p q) y
          rw [e1, e2, e3, ho] at this
          cases this
theorem bf_unitA {f : List Pt} {y x : Rt} (hf : mapOk f = true) (hy : goodRt y = true) (hx : x ∈ bfO f y) : unitRt x = true := by
  unfold bfO biRaw at hx
  obtain ⟨m1, m2, m3, m4, m5⟩ := mapOk_iff.1 hf
  rcases putsL_mem.1 hx with h | h
  · cases h
  · simp only [List.mem_flatMap, List.mem_range, biA, biB, List.mem_append, mem_bif] at h
    obtain ⟨i, hi, ⟨_, h2⟩ | ⟨h1, h2⟩⟩ := h
    · rw [h2]; exact coord_unit (ptOk_iff.1 (map_pt hf hi)).1
    · obtain ⟨k, rfl⟩ : ∃ k, i = k + 1 := ⟨i - 1, by
        rcases Nat.eq_zero_or_pos i with h0 | h0
        · rw [h0, biT_zero] at h1; cases h1
        · omega⟩
      rw [biT_succ] at h1
      rw [biX_succ] at h2
      rw [h2]
      exact backO_unit (map_pt hf (by omega)) (map_pt hf hi) (m5 k hi) hy h1
theorem bd_unitA {f h : List Pt} {x : Rt} (hf : mapOk f = true) (hh : mapOk h = true) (hx : x ∈ bdO f h) : unitRt x = true := by
  unfold bdO bdRaw at hx
  rcases putsL_mem.1 hx with h1 | h1
  · cases h1
  · rcases List.mem_append.1 h1 with h1 | h1
    · rcases List.mem_append.1 h1 with h1 | h1
      · exact mapx_unit hf h1
      · exact mapx_unit hh h1
    · simp only [List.mem_flatMap, List.mem_range] at h1
      obtain ⟨i, hi, h2⟩ := h1
      exact bf_unitA hf (pt_gd hh hi) h2

/-! ### points of a rising list, without those between pieces of the same slope -/
@[irreducible] def rsOk (l : List Pt) : Prop := (∀ p ∈ l, ptOk p = true) ∧ ∀ i, i + 1 < l.length → ltR (getA zP l i).x (getA zP l (i + 1)).x
theorem rsOk_iff {l : List Pt} : rsOk l ↔ ((∀ p ∈ l, ptOk p = true) ∧ ∀ i, i + 1 < l.length → ltR (getA zP l i).x (getA zP l (i + 1)).x) := by unfold rsOk; exact Iff.rfl
theorem rs_pt {l : List Pt} (h : rsOk l) {i : Nat} (hi : i < l.length) : ptOk (getA zP l i) = true := (rsOk_iff.1 h).1 _ (getA_mem _ hi)
theorem rs_lt {l : List Pt} (h : rsOk l) {i : Nat} (hi : i + 1 < l.length) : ltR (getA zP l i).x (getA zP l (i + 1)).x := (rsOk_iff.1 h).2 i hi
noncomputable def smT (l : List Pt) (i : Nat) : Bool := !eqRt (slR (getA zP l (i - 1)) (getA zP l i)) (slR (getA zP l i) (getA zP l (i + 1)))
theorem smT_succ (l : List Pt) (i : Nat) : smT l (i + 1) = !eqRt (slR (getA zP l i) (getA zP l (i + 1))) (slR (getA zP l (i + 1)) (getA zP l (i + 1 + 1))) := rfl
noncomputable def smI (l : List Pt) (i : Nat) : List Pt := bif (decide (i + 1 = l.length) || smT l i) then [getA zP l i] else []
@[irreducible] noncomputable def smK (l : List Pt) (n : Nat) : List Pt := [getA zP l 0] ++ (List.range n).flatMap fun j => smI l (j + 1)
theorem smK_zero (l : List Pt) : smK l 0 = [getA zP l 0] := by unfold smK; simp
theorem smK_succ (l : List Pt) (n : Nat) : smK l (n + 1) = smK l n ++ smI l (n + 1) := by unfold smK; rw [List.range_succ, List.flatMap_append]; simp
theorem smI_t {l : List Pt} {i : Nat} (h : i + 1 = l.length ∨ smT l i = true) : smI l i = [getA zP l i] := by
  unfold smI
  rcases h with h | h
  · rw [decide_eq_true h]; rfl
  · rw [h, Bool.or_true]; rfl
theorem smI_f {l : List Pt} {i : Nat} (h : ¬ i + 1 = l.length) (h2 : smT l i = false) : smI l i = [] := by
  unfold smI; rw [decide_eq_false h, h2]; rfl
theorem smK_len (l : List Pt) : ∀ n, (smK l n).length ≤ n + 1
  | 0 => by rw [smK_zero]; simp
  | n + 1 => by
    have := smK_len l n
    have h2 : (smI l (n + 1)).length ≤ 1 := by unfold smI; cases (decide (n + 1 + 1 = l.length) || smT l (n + 1)) <;> simp
    rw [smK_succ, List.length_append]; omega
@[irreducible] noncomputable def smL (l : List Pt) : List Pt := smK l (l.length - 1)
theorem smL_len (l : List Pt) : (smL l).length ≤ l.length - 1 + 1 := by unfold smL; exact smK_len l _

/-! ### the conjugate map -/
@[irreducible] noncomputable def cmL (f h : List Pt) (n : Nat) : List Pt := (List.range n).map fun i => ⟨vO h (getA zR (bdO f h) i), vO h (vO f (getA zR (bdO f h) i))⟩
theorem cmL_zero (f h : List Pt) : cmL f h 0 = [] := by unfold cmL; rfl
theorem cmL_succ (f h : List Pt) (n : Nat) : cmL f h (n + 1) = cmL f h n ++ [⟨vO h (getA zR (bdO f h) n), vO h (vO f (getA zR (bdO f h) n))⟩] := by unfold cmL; rw [List.range_succ, List.map_append]; rfl
theorem cmL_len (f h : List Pt) (n : Nat) : (cmL f h n).length = n := by unfold cmL; simp
theorem cmL_get {f h : List Pt} {n i : Nat} (hi : i < n) : getA zP (cmL f h n) i = ⟨vO h (getA zR (bdO f h) i), vO h (vO f (getA zR (bdO f h) i))⟩ := by
  unfold cmL
  rw [getA_eq]; simp [List.getD, hi]
@[irreducible] noncomputable def cmG (f h : List Pt) (n : Nat) : Bool := bdG f h && (List.range n).all fun i => (vR h (getA zR (bdO f h) i)).2 && (twR f h (getA zR (bdO f h) i)).2
theorem cmG_zero (f h : List Pt) : cmG f h 0 = bdG f h := by unfold cmG; simp
theorem cmG_succ (f h : List Pt) (n : Nat) : cmG f h (n + 1) = (cmG f h n && ((vR h (getA zR (bdO f h) n)).2 && (twR f h (getA zR (bdO f h) n)).2)) := by unfold cmG; rw [List.range_succ, List.all_append]; simp [Bool.and_assoc]
theorem cm_flag {f h : List Pt} {i : Nat} : (((!cmG f h i || !(vR h (getA zR (bdO f h) i)).2) || !(vR f (getA zR (bdO f h) i)).2) || !(vR h (vO f (getA zR (bdO f h) i))).2) = !cmG f h (i + 1) := by
  rw [cmG_succ, twR_g]
  generalize cmG f h i = a
  generalize (vR h (getA zR (bdO f h) i)).2 = b
  generalize (vR f (getA zR (bdO f h) i)).2 = c
  generalize (vR h (vO f (getA zR (bdO f h) i))).2 = d
  cases a <;> cases b <;> cases c <;> cases d <;> rfl
theorem cmG_at {f h : List Pt} : ∀ {n : Nat}, cmG f h n = true → bdG f h = true ∧ ∀ i, i < n → (vR h (getA zR (bdO f h) i)).2 = true ∧ (twR f h (getA zR (bdO f h) i)).2 = true
  | 0, hg => by rw [cmG_zero] at hg; exact ⟨hg, fun i hi => by omega⟩
  | n + 1, hg => by
    rw [cmG_succ, Bool.and_eq_true, Bool.and_eq_true] at hg
    obtain ⟨a, b⟩ := cmG_at hg.1
    refine ⟨a, fun i hi => ?_⟩
    by_cases e : i = n
    · rw [e]; exact hg.2
    · exact b i (by omega)
/-- the points of the conjugate map -/
noncomputable abbrev cmN (f h : List Pt) : Nat := (bdO f h).length
noncomputable def cmK (f h : List Pt) (n : Nat) : Bool := cmG f h n && (cmL f h n).all ptOk
noncomputable def cmF (f h : List Pt) : List Pt × Bool := match mapOk (smL (cmL f h (cmN f h))) with
  | true => (smL (cmL f h (cmN f h)), true)
  | false => ([], false)
noncomputable def cmR (f h : List Pt) : List Pt × Bool := match cmK f h (cmN f h) with
  | true => cmF f h
  | false => ([], false)
noncomputable def cmRes (f h : List Pt) : List Pt × Bool := match mapOk f && chOk h with
  | true => cmR f h
  | false => ([], false)
theorem cmR_t {f h : List Pt} (hk : cmK f h (cmN f h) = true) : cmR f h = cmF f h := by unfold cmR; rw [hk]
theorem cmR_f {f h : List Pt} (hk : cmK f h (cmN f h) = false) : cmR f h = ([], false) := by unfold cmR; rw [hk]
theorem cmF_t {f h : List Pt} (hk : mapOk (smL (cmL f h (cmN f h))) = true) : cmF f h = (smL (cmL f h (cmN f h)), true) := by unfold cmF; rw [hk]
theorem cmF_f {f h : List Pt} (hk : mapOk (smL (cmL f h (cmN f h))) = false) : cmF f h = ([], false) := by unfold cmF; rw [hk]
theorem cmRes_t {f h : List Pt} (h1 : mapOk f = true) (h2 : chOk h = true) : cmRes f h = cmR f h := by unfold cmRes; rw [h1, h2]; rfl
theorem cmRes_f1 {f h : List Pt} (h1 : mapOk f = false) : cmRes f h = ([], false) := by unfold cmRes; rw [h1]; rfl
theorem cmRes_f2 {f h : List Pt} (h1 : chOk h = false) : cmRes f h = ([], false) := by unfold cmRes; rw [h1, Bool.and_false]
theorem cmRes_len (f h : List Pt) : (cmRes f h).1.length ≤ 12 := by
  unfold cmRes
  split
  · unfold cmR
    split
    · unfold cmF
      split
      · rename_i hm; exact (mapOk_iff.1 hm).1.2
      · exact Nat.zero_le _
    · exact Nat.zero_le _
  · exact Nat.zero_le _
/-- the bends: 0 and 1 at least -/
theorem bd_two {f h : List Pt} (hf : mapOk f = true) (hh : mapOk h = true) : 2 ≤ cmN f h := by
  obtain ⟨m1, m2, m3, m4, m5⟩ := mapOk_iff.1 hf
  have mem : ∀ p ∈ f, p.x ∈ bdO f h := fun p hp => by
    unfold bdO bdRaw
    exact putsL_mem.2 (.inr (List.mem_append.2 (.inl (List.mem_append.2 (.inl (List.mem_map_of_mem hp))))))
  have h0 : (⟨0, 1⟩ : Rt) ∈ bdO f h := by rw [← m3]; exact mem _ (getA_mem _ (by omega))
  have h1 : (⟨1, 1⟩ : Rt) ∈ bdO f h := by rw [← m4]; exact mem _ (getA_mem _ (by omega))
  revert h0 h1
  show _ → _ → 2 ≤ (bdO f h).length
  generalize bdO f h = l
  intro h0 h1
  match l, h0, h1 with
  | [], h0, _ => cases h0
  | [x], h0, h1 =>
    rw [List.mem_singleton] at h0 h1
    rw [← h0] at h1
    cases h1
  | _ :: _ :: r, _, _ => simp
theorem ss_get {l : List Rt} (hs : SS l) {i : Nat} (hi : i + 1 < l.length) : qR (getA zR l i) < qR (getA zR l (i + 1)) := by
  have := List.pairwise_iff_getElem.1 hs i (i + 1) (by omega) hi (by omega)
  rw [getA_eq, getA_eq]
  simpa [List.getD, show i < l.length by omega, hi] using this
theorem cm_rs {f h : List Pt} (hf : mapOk f = true) (hc : chOk h = true) (hk : cmK f h (cmN f h) = true) : rsOk (cmL f h (cmN f h)) := by
  have hh := (chOk_iff.1 hc).1
  unfold cmK at hk
  rw [Bool.and_eq_true, List.all_eq_true] at hk
  obtain ⟨g1, g2⟩ := cmG_at hk.1
  refine rsOk_iff.2 ⟨hk.2, fun i hi => ?_⟩
  rw [cmL_len] at hi
  rw [cmL_get (by omega), cmL_get hi]
  show ltR (vO h _) (vO h _)
  have u1 : unitRt (getA zR (bdO f h) i) = true := bd_unitA hf hh (getA_mem _ (show i < (bdO f h).length from Nat.lt_of_succ_lt hi))
  have u2 : unitRt (getA zR (bdO f h) (i + 1)) = true := bd_unitA hf hh (getA_mem _ hi)
  have o1 := (g2 i (by omega)).1
  have o2 := (g2 (i + 1) hi).1
  rw [vO_t o1, vO_t o2]
  exact (q_lt (vR_good hh u1 o1) (vR_good hh u2 o2)).2 (vR_mono hc u1 u2 o1 o2 (ss_get (bdO_ss hf hh) (show i + 1 < (bdO f h).length from hi)))
/-- a point whose denominators are too large -/
def bigP (p : Pt) : Bool := bif decide (100 < p.x.den) then true else decide (100 < p.y.den)
theorem pt_big {p : Pt} (hx : unitRt p.x = true) (hy : unitRt p.y = true) : ptOk p = !bigP p := by
  have e : ∀ r : Rt, unitRt r = true → coordRt r = !decide (100 < r.den) := fun r hr => by
    unfold coordRt
    rw [hr, Bool.true_and]
    by_cases h : 100 < r.den
    · rw [decide_eq_true h, decide_eq_false (by omega)]; rfl
    · rw [decide_eq_false h, decide_eq_true (by omega)]; rfl
  unfold ptOk bigP
  rw [e _ hx, e _ hy]
  cases decide (100 < p.x.den) <;> cases decide (100 < p.y.den) <;> rfl
theorem cm_units {f h : List Pt} (hf : mapOk f = true) (hc : chOk h = true) : ∀ p ∈ cmL f h (cmN f h), unitRt p.x = true ∧ unitRt p.y = true := by
  have hh := (chOk_iff.1 hc).1
  intro p hp
  unfold cmL at hp
  obtain ⟨i, hi, rfl⟩ := List.mem_map.1 hp
  have hi := List.mem_range.1 hi
  have u1 : unitRt (getA zR (bdO f h) i) = true := bd_unitA hf hh (getA_mem _ hi)
  exact ⟨vO_unit hh u1, vO_unit hh (vO_unit hf u1)⟩
theorem cm_big {f h : List Pt} (hf : mapOk f = true) (hc : chOk h = true) : (cmL f h (cmN f h)).all ptOk = !(cmL f h (cmN f h)).any bigP := by
  have hu := cm_units hf hc
  revert hu
  generalize cmL f h (cmN f h) = l
  induction l with
  | nil => intro _; rfl
  | cons p r ih =>
    intro hu
    have := hu p (by simp)
    rw [List.all_cons, List.any_cons, ih (fun q hq => hu q (by simp [hq])), pt_big this.1 this.2]
    cases bigP p <;> rfl

noncomputable def mdR (l : List Pt) : List Pt × Bool := match l.any bigP with
  | true => ([], false)
  | false => (smL l, mapOk (smL l))
theorem mdR_t {l : List Pt} (h : l.any bigP = true) : mdR l = ([], false) := by unfold mdR; rw [h]
theorem mdR_f {l : List Pt} (h : l.any bigP = false) : mdR l = (smL l, mapOk (smL l)) := by unfold mdR; rw [h]
noncomputable def fnR (c : Bool) (l : List Pt) : List Pt × Bool := match c with
  | true => ([], false)
  | false => match (mdR l).2 with
    | true => ((mdR l).1, true)
    | false => ([], false)
theorem fnR_c (l : List Pt) : fnR true l = ([], false) := rfl
theorem fnR_t {c : Bool} {l : List Pt} (hc : c = false) (h : (mdR l).2 = true) : fnR c l = ((mdR l).1, true) := by subst hc; unfold fnR; rw [h]
theorem fnR_f {c : Bool} {l : List Pt} (h : (mdR l).2 = false) : fnR c l = ([], false) := by
  cases c
  · unfold fnR; rw [h]
  · rfl
theorem fn_eq {f h : List Pt} (hf : mapOk f = true) (hc : chOk h = true) : fnR (!cmG f h (cmN f h)) (cmL f h (cmN f h)) = cmR f h := by
  have hb := cm_big hf hc
  cases hg : cmG f h (cmN f h) with
  | false =>
    have : cmK f h (cmN f h) = false := by unfold cmK; rw [hg]; rfl
    rw [cmR_f this]; rfl
  | true =>
    cases ha : (cmL f h (cmN f h)).any bigP with
    | true =>
      rw [ha] at hb
      have : cmK f h (cmN f h) = false := by unfold cmK; rw [hg, hb]; rfl
      rw [cmR_f this, fnR_f (by rw [mdR_t ha])]
    | false =>
      rw [ha] at hb
      have : cmK f h (cmN f h) = true := by unfold cmK; rw [hg, hb]; rfl
      rw [cmR_t this]
      cases hm : mapOk (smL (cmL f h (cmN f h))) with
      | true => rw [cmF_t hm, Bool.not_true, fnR_t rfl (by rw [mdR_f ha]; exact hm), mdR_f ha]
      | false => rw [cmF_f hm, fnR_f (by rw [mdR_f ha]; exact hm)]
theorem cm_rs' {f h : List Pt} (hf : mapOk f = true) (hc : chOk h = true) (hg : cmG f h (cmN f h) = true) (ha : (cmL f h (cmN f h)).any bigP = false) : rsOk (cmL f h (cmN f h)) := by
  refine cm_rs hf hc ?_
  unfold cmK
  rw [cm_big hf hc, ha, hg]; rfl
theorem cmK_zero {f h : List Pt} (hg : bdG f h = true) : cmK f h 0 = true := by unfold cmK; rw [cmG_zero, hg, cmL_zero]; rfl
theorem cmK_next {f h : List Pt} {i : Nat} (hk : cmK f h i = true) (h1 : (vR h (getA zR (bdO f h) i)).2 = true) (h2 : (twR f h (getA zR (bdO f h) i)).2 = true) (h3 : coordRt (vR h (getA zR (bdO f h) i)).1 = true) (h4 : coordRt (twR f h (getA zR (bdO f h) i)).1 = true) : cmK f h (i + 1) = true := by
  unfold cmK at hk ⊢
  rw [Bool.and_eq_true] at hk
  rw [cmG_succ, hk.1, h1, h2, cmL_succ, List.all_append, hk.2]
  have e2 := twO_t h2
  unfold twO at e2
  simp only [List.all_cons, List.all_nil, Bool.and_true, Bool.true_and]
  unfold ptOk
  dsimp only
  rw [vO_t h1, e2, h3, h4]; rfl
theorem cmL_next {f h : List Pt} {i : Nat} (h1 : (vR h (getA zR (bdO f h) i)).2 = true) (h2 : (twR f h (getA zR (bdO f h) i)).2 = true) : cmL f h i ++ [⟨(vR h (getA zR (bdO f h) i)).1, (twR f h (getA zR (bdO f h) i)).1⟩] = cmL f h (i + 1) := by
  have e2 := twO_t h2
  unfold twO at e2
  rw [cmL_succ, vO_t h1, e2]
theorem cmK_f0 {f h : List Pt} {n : Nat} (hb : bdG f h = false) : cmK f h n = false := by
  unfold cmK
  cases hg : cmG f h n
  · rfl
  · rw [(cmG_at hg).1] at hb; cases hb
theorem cmK_f {f h : List Pt} {i n : Nat} (hi : i < n) (hb : ¬ ((vR h (getA zR (bdO f h) i)).2 = true ∧ (twR f h (getA zR (bdO f h) i)).2 = true ∧ coordRt (vR h (getA zR (bdO f h) i)).1 = true ∧ coordRt (twR f h (getA zR (bdO f h) i)).1 = true)) : cmK f h n = false := by
  cases hk : cmK f h n
  · rfl
  · exfalso
    unfold cmK at hk
    rw [Bool.and_eq_true, List.all_eq_true] at hk
    obtain ⟨a, b⟩ := (cmG_at hk.1).2 i hi
    have hp := hk.2 _ (getA_mem zP (l := cmL f h n) (i := i) (by rw [cmL_len]; exact hi))
    rw [cmL_get hi, ptOk_iff] at hp
    have e2 := twO_t b
    unfold twO at e2
    dsimp only at hp
    rw [vO_t a, e2] at hp
    exact hb ⟨a, b, hp.1, hp.2⟩
end Go.Vx
namespace Go.Vx
open Go
set_option maxRecDepth 100000
set_option linter.unusedSimpArgs false
set_option linter.unusedVariables false

abbrev qX (f : List Pt) (i : Nat) : Rat := qR (getA zP f i).x
abbrev qY (f : List Pt) (i : Nat) : Rat := qR (getA zP f i).y
theorem r_cancel {a b c : Rat} (hc : 0 < c) (h : a * c = b * c) : a = b := by
  have : c ≠ 0 := by grind
  grind
theorem r_prod {a c : Rat} (hc : 0 < c) (h : 0 ≤ a * c) : 0 ≤ a := by
  by_cases h1 : a < 0
  · have := Rat.mul_pos (show 0 < -a by grind) hc
    grind
  · grind
/-- strictly rising places -/
def Inc (f : List Pt) : Prop := ∀ i, i + 1 < f.length → qX f i < qX f (i + 1)
theorem Inc.le {f : List Pt} (h : Inc f) : ∀ (i k : Nat), i + k < f.length → qX f i ≤ qX f (i + k)
  | i, 0, _ => by rw [Nat.add_zero]; exact Rat.le_refl
  | i, k + 1, hk => by
    have h1 := Inc.le h i k (by omega)
    have h2 := h (i + k) (by omega)
    rw [← Nat.add_assoc]
    grind
theorem Inc.lt {f : List Pt} (h : Inc f) {i j : Nat} (hij : i < j) (hj : j < f.length) : qX f i < qX f j := by
  have h1 := h i (by omega)
  have h2 := Inc.le h (i + 1) (j - (i + 1)) (by omega)
  rw [show i + 1 + (j - (i + 1)) = j by omega] at h2
  grind
/-- on the line of a piece -/
def OnP (f : List Pt) (i : Nat) (t v : Rat) : Prop := (v - qY f i) * (qX f (i + 1) - qX f i) = (qY f (i + 1) - qY f i) * (t - qX f i)
/-- the value at t is v -/
def PV (f : List Pt) (t v : Rat) : Prop := ∃ i, i + 1 < f.length ∧ qX f i ≤ t ∧ t ≤ qX f (i + 1) ∧ OnP f i t v
theorem OnP.right {f : List Pt} (h : Inc f) {i : Nat} (hi : i + 1 < f.length) {v : Rat} (ho : OnP f i (qX f (i + 1)) v) : v = qY f (i + 1) := by
  have h1 := h i hi
  unfold OnP at ho
  have : v - qY f i = qY f (i + 1) - qY f i := r_cancel (c := qX f (i + 1) - qX f i) (by grind) ho
  grind
theorem OnP.left {f : List Pt} (h : Inc f) {i : Nat} (hi : i + 1 < f.length) {v : Rat} (ho : OnP f i (qX f i) v) : v = qY f i := by
  have h1 := h i hi
  unfold OnP at ho
  have : v - qY f i = 0 := r_cancel (c := qX f (i + 1) - qX f i) (by grind) (by grind)
  grind
theorem OnP.uniq {f : List Pt} (h : Inc f) {i : Nat} (hi : i + 1 < f.length) {t v w : Rat} (h1 : OnP f i t v) (h2 : OnP f i t w) : v = w := by
  have h3 := h i hi
  unfold OnP at h1 h2
  have : v - qY f i = w - qY f i := r_cancel (c := qX f (i + 1) - qX f i) (by grind) (by rw [h1, h2])
  grind
theorem PV.uniq_lt {f : List Pt} (h : Inc f) {i j : Nat} (hij : i < j) (hi : i + 1 < f.length) (hj : j + 1 < f.length) {t v w : Rat} (ht : t ≤ qX f (i + 1)) (ht2 : qX f j ≤ t) (h1 : OnP f i t v) (h2 : OnP f j t w) : v = w := by
  have hle := Inc.le h (i + 1) (j - (i + 1)) (by omega)
  rw [show i + 1 + (j - (i + 1)) = j by omega] at hle
  have e : j = i + 1 := by
    rcases Nat.lt_or_ge (i + 1) j with h3 | h3
    · have := Inc.lt h h3 (by omega); grind
    · omega
  subst e
  have et : t = qX f (i + 1) := by grind
  subst et
  rw [h1.right h hi, h2.left h hj]
theorem PV.uniq {f : List Pt} (h : Inc f) {t v w : Rat} (h1 : PV f t v) (h2 : PV f t w) : v = w := by
  obtain ⟨i, a1, a2, a3, a4⟩ := h1
  obtain ⟨j, b1, b2, b3, b4⟩ := h2
  rcases Nat.lt_trichotomy i j with e | e | e
  · exact PV.uniq_lt h e a1 b1 a3 b2 a4 b4
  · subst e; exact a4.uniq h a1 b4
  · exact (PV.uniq_lt h e b1 a1 b3 a2 b4 a4).symm
/-- between two of a rising sequence -/
theorem locate (z : Nat → Rat) : ∀ (n : Nat) {t : Rat}, 0 < n → z 0 ≤ t → t ≤ z n → ∃ i, i < n ∧ z i ≤ t ∧ t ≤ z (i + 1)
  | 0, _, h, _, _ => by omega
  | 1, t, _, h1, h2 => ⟨0, by omega, h1, h2⟩
  | n + 2, t, _, h1, h2 => by
    by_cases h : t ≤ z (n + 1)
    · obtain ⟨i, a, b, c⟩ := locate z (n + 1) (by omega) h1 h
      exact ⟨i, by omega, b, c⟩
    · exact ⟨n + 1, by omega, by grind, h2⟩
open Classical in
noncomputable def pv (f : List Pt) (t : Rat) : Rat := if h : ∃ v, PV f t v then Classical.choose h else 0
theorem pv_eq {f : List Pt} (h : Inc f) {t v : Rat} (hv : PV f t v) : pv f t = v := by
  unfold pv
  rw [dif_pos ⟨v, hv⟩]
  exact PV.uniq h (Classical.choose_spec (p := fun v => PV f t v) ⟨v, hv⟩) hv
theorem pv_piece {f : List Pt} (h : Inc f) {i : Nat} (hi : i + 1 < f.length) {t : Rat} (h1 : qX f i ≤ t) (h2 : t ≤ qX f (i + 1)) : OnP f i t (pv f t) := by
  have h3 := h i hi
  have h4 : qX f (i + 1) - qX f i ≠ 0 := by grind
  have : OnP f i t (qY f i + (qY f (i + 1) - qY f i) * (t - qX f i) / (qX f (i + 1) - qX f i)) := by
    unfold OnP
    generalize qX f (i + 1) - qX f i = d at *
    generalize (qY f (i + 1) - qY f i) * (t - qX f i) = e
    grind
  rw [pv_eq h ⟨i, hi, h1, h2, this⟩]
  exact this
theorem pv_PV {f : List Pt} (h : Inc f) {i : Nat} (hi : i + 1 < f.length) {t : Rat} (h1 : qX f i ≤ t) (h2 : t ≤ qX f (i + 1)) : PV f t (pv f t) := ⟨i, hi, h1, h2, pv_piece h hi h1 h2⟩
theorem pv_knot {f : List Pt} (h : Inc f) (h2 : 2 ≤ f.length) {i : Nat} (hi : i < f.length) : pv f (qX f i) = qY f i := by
  by_cases hn : i + 1 < f.length
  · exact (pv_piece h hn Rat.le_refl (Rat.le_of_lt (h i hn))).left h hn
  · obtain ⟨k, rfl⟩ : ∃ k, i = k + 1 := ⟨i - 1, by omega⟩
    exact (pv_piece h (i := k) (by omega) (Rat.le_of_lt (h k (by omega))) Rat.le_refl).right h (by omega)

/-- on a line between a and b -/
def Aff (F : Rat → Rat) (a b : Rat) : Prop := ∀ t, a ≤ t → t ≤ b → (F t - F a) * (b - a) = (F b - F a) * (t - a)
theorem Aff.id (a b : Rat) : Aff (fun t => t) a b := fun t _ _ => by grind
theorem aff_piece {f : List Pt} (h : Inc f) {i : Nat} (hi : i + 1 < f.length) {a b : Rat} (h1 : qX f i ≤ a) (hab : a ≤ b) (h2 : b ≤ qX f (i + 1)) : Aff (pv f) a b := fun t ha hb => by
  have h3 := h i hi
  have e1 := pv_piece h hi h1 (by grind)
  have e2 := pv_piece h hi (by grind) h2
  have e3 := pv_piece h hi (t := t) (by grind) (by grind)
  unfold OnP at e1 e2 e3
  refine r_cancel (c := qX f (i + 1) - qX f i) (by grind) ?_
  generalize qX f (i + 1) - qX f i = d at *
  generalize qY f (i + 1) - qY f i = s at *
  grind
/-- where no knot lies between -/
theorem no_knot {f : List Pt} (h2 : 2 ≤ f.length) {a b : Rat} (h0 : qX f 0 ≤ a) (hab : a < b) (h1 : b ≤ qX f (f.length - 1)) (hn : ∀ i, i < f.length → ¬ (a < qX f i ∧ qX f i < b)) : ∃ i, i + 1 < f.length ∧ qX f i ≤ a ∧ b ≤ qX f (i + 1) := by
  -- the last knot that is not behind a
  have : ∀ n, n < f.length → a < qX f n → ∃ i, i + 1 < f.length ∧ qX f i ≤ a ∧ a < qX f (i + 1) := by
    intro n
    induction n with
    | zero => intro _ h; grind
    | succ n ih =>
      intro hl h
      by_cases h3 : a < qX f n
      · exact ih (by omega) h3
      · exact ⟨n, hl, by grind, h⟩
  obtain ⟨i, h3, h4, h5⟩ := this (f.length - 1) (by omega) (by grind)
  refine ⟨i, h3, h4, ?_⟩
  have := hn (i + 1) h3
  grind
theorem Aff.mid {F : Rat → Rat} {a b : Rat} (h : Aff F a b) (hab : a < b) {t : Rat} (h1 : a ≤ t) (h2 : t ≤ b) (hF : F a ≤ F b) : F a ≤ F t ∧ F t ≤ F b := by
  have e := h t h1 h2
  have p1 := Rat.mul_nonneg (show 0 ≤ F b - F a by grind) (show 0 ≤ t - a by grind)
  have p2 := Rat.mul_nonneg (show 0 ≤ F b - F a by grind) (show 0 ≤ b - t by grind)
  have q1 : 0 ≤ F t - F a := r_prod (c := b - a) (by grind) (by grind)
  have q2 : 0 ≤ F b - F t := r_prod (c := b - a) (by grind) (by grind)
  grind
theorem Aff.mid' {F : Rat → Rat} {a b : Rat} (h : Aff F a b) (hab : a < b) {t : Rat} (h1 : a ≤ t) (h2 : t ≤ b) (hF : F b ≤ F a) : F b ≤ F t ∧ F t ≤ F a := by
  have e := h t h1 h2
  have p1 := Rat.mul_nonneg (show 0 ≤ F a - F b by grind) (show 0 ≤ t - a by grind)
  have p2 := Rat.mul_nonneg (show 0 ≤ F a - F b by grind) (show 0 ≤ b - t by grind)
  have q1 : 0 ≤ F a - F t := r_prod (c := b - a) (by grind) (by grind)
  have q2 : 0 ≤ F t - F b := r_prod (c := b - a) (by grind) (by grind)
  grind
theorem Aff.comp {F G : Rat → Rat} {a b : Rat} (hab : a < b) (hG : Aff G a b) (hF : (G a ≤ G b ∧ (G a < G b → Aff F (G a) (G b))) ∨ (G b < G a ∧ Aff F (G b) (G a))) : Aff (fun t => F (G t)) a b := fun t h1 h2 => by
  have e := hG t h1 h2
  show (F (G t) - F (G a)) * (b - a) = (F (G b) - F (G a)) * (t - a)
  rcases hF with ⟨hle, hF⟩ | ⟨hlt, hF⟩
  · by_cases hlt : G a < G b
    · obtain ⟨m1, m2⟩ := hG.mid hab h1 h2 hle
      have e2 := hF hlt _ m1 m2
      refine r_cancel (c := G b - G a) (by grind) ?_
      generalize F (G t) = x at *
      generalize F (G a) = y at *
      generalize F (G b) = z at *
      have : (x - y) * (b - a) * (G b - G a) = ((x - y) * (G b - G a)) * (b - a) := by grind
      rw [this, e2]
      have : (z - y) * (G t - G a) * (b - a) = (z - y) * ((G t - G a) * (b - a)) := by grind
      rw [this, e]
      grind
    · have e3 : G a = G b := by grind
      have e4 : G t - G a = 0 := r_cancel (c := b - a) (by grind) (by grind)
      rw [show G t = G a by grind, ← e3]
      grind
  · obtain ⟨m1, m2⟩ := hG.mid' hab h1 h2 (Rat.le_of_lt hlt)
    have e2 := hF _ m1 m2
    refine r_cancel (c := G a - G b) (by grind) ?_
    generalize F (G t) = x at *
    generalize F (G a) = y at *
    generalize F (G b) = z at *
    have : (x - y) * (b - a) * (G a - G b) = ((x - z) * (G a - G b)) * (b - a) - (y - z) * (G a - G b) * (b - a) := by grind
    rw [this, e2]
    have : (y - z) * (G t - G b) * (b - a) - (y - z) * (G a - G b) * (b - a) = (y - z) * ((G t - G a) * (b - a)) := by grind
    rw [this, e]
    grind
/-- where a value lies between, it is taken between -/
theorem Aff.back {G : Rat → Rat} {a b x y : Rat} (hab : a < b) (hx1 : (y - G a) * (b - a) = (G b - G a) * (x - a)) (hy : (G a < y ∧ y < G b) ∨ (G b < y ∧ y < G a)) : a < x ∧ x < b := by
  rcases hy with ⟨h1, h2⟩ | ⟨h1, h2⟩
  · have p1 := Rat.mul_pos (show 0 < y - G a by grind) (show 0 < b - a by grind)
    have p2 := Rat.mul_pos (show 0 < G b - y by grind) (show 0 < b - a by grind)
    constructor
    · by_cases h : x ≤ a
      · have := Rat.mul_nonneg (show 0 ≤ G b - G a by grind) (show 0 ≤ a - x by grind); grind
      · grind
    · by_cases h : b ≤ x
      · have := Rat.mul_nonneg (show 0 ≤ G b - G a by grind) (show 0 ≤ x - b by grind); grind
      · grind
  · have p1 := Rat.mul_pos (show 0 < G a - y by grind) (show 0 < b - a by grind)
    have p2 := Rat.mul_pos (show 0 < y - G b by grind) (show 0 < b - a by grind)
    constructor
    · by_cases h : x ≤ a
      · have := Rat.mul_nonneg (show 0 ≤ G a - G b by grind) (show 0 ≤ a - x by grind); grind
      · grind
    · by_cases h : b ≤ x
      · have := Rat.mul_nonneg (show 0 ≤ G a - G b by grind) (show 0 ≤ x - b by grind); grind
      · grind
/-- a list of points that lie at φ and ψ of a rising sequence, where both are lines between -/
theorem interp {l : List Pt} (hl : Inc l) {z : Nat → Rat} {φ ψ : Rat → Rat} {i : Nat} (hi : i + 1 < l.length) (hz : z i < z (i + 1)) (hX : qX l i = φ (z i)) (hX2 : qX l (i + 1) = φ (z (i + 1))) (hY : qY l i = ψ (z i)) (hY2 : qY l (i + 1) = ψ (z (i + 1)))
    (h1 : Aff φ (z i) (z (i + 1))) (h2 : Aff ψ (z i) (z (i + 1))) {t : Rat} (t1 : z i ≤ t) (t2 : t ≤ z (i + 1)) : PV l (φ t) (ψ t) := by
  have h3 := hl i hi
  rw [hX, hX2] at h3
  obtain ⟨m1, m2⟩ := h1.mid hz t1 t2 (Rat.le_of_lt h3)
  refine ⟨i, hi, by rw [hX]; exact m1, by rw [hX2]; exact m2, ?_⟩
  unfold OnP
  rw [hX, hX2, hY, hY2]
  have e1 := h1 t t1 t2
  have e2 := h2 t t1 t2
  refine r_cancel (c := z (i + 1) - z i) (by grind) ?_
  generalize φ (z i) = a at *
  generalize φ (z (i + 1)) = b at *
  generalize ψ (z i) = c at *
  generalize ψ (z (i + 1)) = d at *
  have : (ψ t - c) * (b - a) * (z (i + 1) - z i) = ((ψ t - c) * (z (i + 1) - z i)) * (b - a) := by grind
  rw [this, e2]
  have : (d - c) * (φ t - a) * (z (i + 1) - z i) = (d - c) * ((φ t - a) * (z (i + 1) - z i)) := by grind
  rw [this, e1]
  grind

/-! ### maps -/
theorem map_inc {f : List Pt} (h : mapOk f = true) : Inc f := fun i hi => by
  obtain ⟨m1, m2, m3, m4, m5⟩ := mapOk_iff.1 h
  exact (q_lt (coord_good (ptOk_iff.1 (map_pt h (i := i) (by omega))).1) (coord_good (ptOk_iff.1 (map_pt h hi)).1)).1 (m5 i hi)
theorem map_0 {f : List Pt} (h : mapOk f = true) : qX f 0 = 0 := by show qR _ = 0; rw [(mapOk_iff.1 h).2.2.1, q_zero]
theorem map_1 {f : List Pt} (h : mapOk f = true) : qX f (f.length - 1) = 1 := by show qR _ = 1; rw [(mapOk_iff.1 h).2.2.2.1, q_one]
theorem map_2 {f : List Pt} (h : mapOk f = true) : 2 ≤ f.length := (mapOk_iff.1 h).1.1
theorem map_loc {f : List Pt} (h : mapOk f = true) {t : Rat} (h0 : 0 ≤ t) (h1 : t ≤ 1) : ∃ i, i + 1 < f.length ∧ qX f i ≤ t ∧ t ≤ qX f (i + 1) := by
  have := map_2 h
  obtain ⟨i, a, b, c⟩ := locate (qX f) (f.length - 1) (t := t) (by omega) (by rw [map_0 h]; exact h0) (by rw [map_1 h]; exact h1)
  exact ⟨i, by omega, b, c⟩
theorem y_unit {f : List Pt} (h : mapOk f = true) {i : Nat} (hi : i < f.length) : 0 ≤ qY f i ∧ qY f i ≤ 1 :=
  (q_unit (coord_good (ptOk_iff.1 (map_pt h hi)).2)).1 (coord_unit (ptOk_iff.1 (map_pt h hi)).2)
theorem x_unit {f : List Pt} (h : mapOk f = true) {i : Nat} (hi : i < f.length) : 0 ≤ qX f i ∧ qX f i ≤ 1 :=
  (q_unit (coord_good (ptOk_iff.1 (map_pt h hi)).1)).1 (coord_unit (ptOk_iff.1 (map_pt h hi)).1)
theorem pv_unit {f : List Pt} (h : mapOk f = true) {t : Rat} (h0 : 0 ≤ t) (h1 : t ≤ 1) : 0 ≤ pv f t ∧ pv f t ≤ 1 := by
  obtain ⟨i, hi, a, b⟩ := map_loc h h0 h1
  have hinc := map_inc h
  have hA := aff_piece hinc hi Rat.le_refl (Rat.le_of_lt (hinc i hi)) Rat.le_refl
  have k1 := pv_knot hinc (map_2 h) (i := i) (by omega)
  have k2 := pv_knot hinc (map_2 h) hi
  have u1 := y_unit h (i := i) (by omega)
  have u2 := y_unit h hi
  by_cases hle : pv f (qX f i) ≤ pv f (qX f (i + 1))
  · have := hA.mid (hinc i hi) a b hle
    rw [k1, k2] at this
    grind
  · have := hA.mid' (hinc i hi) a b (by grind)
    rw [k1, k2] at this
    grind
/-- the value that is computed is the exact one -/
theorem vR_q {f : List Pt} {x : Rt} (h : mapOk f = true) (hx : unitRt x = true) (ho : (vR f x).2 = true) : qR (vR f x).1 = pv f (qR x) := by
  obtain ⟨p1, p2, p3, p4⟩ := pc_spec h hx
  have hp := map_pt h (i := pcN f x) (by omega)
  have hq := map_pt h (i := pcN f x + 1) p1
  have hlt := (mapOk_iff.1 h).2.2.2.2 _ p1
  obtain ⟨s1, s2, s3⟩ := slR_ok hp hq hlt
  have gx := coord_good (ptOk_iff.1 hp).1
  have gX := coord_good (ptOk_iff.1 hq).1
  have hg := unit_good hx
  refine (pv_eq (map_inc h) ⟨pcN f x, p1, Rat.not_lt.1 fun hh => p2 ((q_lt hg gx).2 hh), Rat.not_lt.1 fun hh => p3 ((q_lt gX hg).2 hh), ?_⟩).symm
  unfold vR at ho ⊢
  have e := (line_q hp hq hlt hg ho).2
  unfold OnP
  show (qR _ - qR _) * (qR _ - qR _) = (qR _ - qR _) * (qR _ - qR _)
  rw [e, ← s3]
  grind
theorem twR_q {f h : List Pt} {x : Rt} (hf : mapOk f = true) (hh : mapOk h = true) (hx : unitRt x = true) (ho : (twR f h x).2 = true) : qR (twR f h x).1 = pv h (pv f (qR x)) := by
  have h1 := ho
  rw [twR_g, Bool.and_eq_true] at h1
  rw [twR_t h1.1] at ho ⊢
  rw [vR_q hh (vR_unit hf hx h1.1) ho, vR_q hf hx h1.1]
/-- the place before -/
theorem backR_q {p : Pt} {s y : Rt} (gx : goodRt p.x = true) (gy : goodRt p.y = true) (hs : goodRt s = true) (hs0 : s.num ≠ 0) (hy : goodRt y = true) (ho : (backR p s y).2 = true) : (qR (backR p s y).1 - qR p.x) * qR s = qR y - qR p.y := by
  cases e1 : (subRt y p.y).2 with
  | false => rw [backR_1 e1] at ho; cases ho
  | true =>
    cases e2 : (divRt (subRt y p.y).1 s).2 with
    | false => rw [backR_2 e1 e2] at ho; cases ho
    | true =>
      rw [backR_3 e1 e2] at ho ⊢
      have g1 : goodRt (subRt y p.y).1 = true := lowRt_good1 e1
      have g2 : goodRt (divRt (subRt y p.y).1 s).1 = true := lowRt_good1 e2
      have d := q_div g1 hs hs0 e2
      rw [q_sub hy gy e1] at d
      rw [q_add gx g2 ho]
      grind
theorem cr_iff {p q : Pt} {y : Rt} (hp : goodRt p.y = true) (hq : goodRt q.y = true) (hy : goodRt y = true) : crP p q y = true ↔ ((qR p.y < qR y ∧ qR y < qR q.y) ∨ (qR q.y < qR y ∧ qR y < qR p.y)) := by
  unfold crP
  rw [decide_eq_true_eq]
  have a1 := @cmpRt_neg p.y y
  have a2 := @cmpRt_neg q.y y
  have b1 := q_lt hp hy
  have b2 := q_lt hy hp
  have b3 := q_lt hq hy
  have b4 := q_lt hy hq
  have z1 := cmpRt_zero hp hy
  have z2 := cmpRt_zero hq hy
  have lo : ∀ {a : Pt}, cmpRt a.y y = 1 → ltR y a.y := fun h => cmp_pos' (by omega)
  constructor
  · intro h
    rcases cmp_1 p.y y with h1 | h1 | h1 <;> rcases cmp_1 q.y y with h2 | h2 | h2 <;> rw [h1, h2] at h <;> first
      | (exact absurd h (by decide))
      | exact .inl ⟨b1.1 (a1.1 (by omega)), b4.1 (lo h2)⟩
      | exact .inr ⟨b3.1 (a2.1 (by omega)), b2.1 (lo h1)⟩
  · rintro (⟨h1, h2⟩ | ⟨h1, h2⟩)
    · have c1 : cmpRt p.y y = -1 := by
        have := a1.2 (b1.2 h1)
        rcases cmp_1 p.y y with h | h | h <;> omega
      have c2 : cmpRt q.y y = 1 := by
        have := b4.2 h2
        rcases cmp_1 q.y y with h | h | h
        · exact absurd (a2.1 (by omega)) (nlt_of this)
        · rw [z2.1 h] at h2; grind
        · exact h
      rw [c1, c2]; decide
    · have c1 : cmpRt q.y y = -1 := by
        have := a2.2 (b3.2 h1)
        rcases cmp_1 q.y y with h | h | h <;> omega
      have c2 : cmpRt p.y y = 1 := by
        have := b2.2 h2
        rcases cmp_1 p.y y with h | h | h
        · exact absurd (a1.1 (by omega)) (nlt_of this)
        · rw [z1.1 h] at h2; grind
        · exact h
      rw [c1, c2]; decide
/-- what lies before a place between the values of a piece -/
theorem before_mem {g : List Pt} {y : Rt} (hg : mapOk g = true) (hy : goodRt y = true) (hb : bfG g y = true) {j : Nat} (hj : j + 1 < g.length) (hc : (qY g j < qR y ∧ qR y < qY g (j + 1)) ∨ (qY g (j + 1) < qR y ∧ qR y < qY g j)) :
    ∃ x ∈ bfO g y, (qR y - qY g j) * (qX g (j + 1) - qX g j) = (qY g (j + 1) - qY g j) * (qR x - qX g j) := by
  have hp := map_pt hg (i := j) (by omega)
  have hq := map_pt hg hj
  have hlt := (mapOk_iff.1 hg).2.2.2.2 _ hj
  have gp := ptOk_iff.1 hp
  have gq := ptOk_iff.1 hq
  have hcr := (cr_iff (coord_good gp.2) (coord_good gq.2) hy).2 hc
  have hT : biT g y (j + 1) = true := by rw [biT_succ]; exact hcr
  have ho : (bkP g y j).2 = true := by
    unfold bfG at hb
    exact biG_at hb j hj hT
  obtain ⟨s1, s2, s3⟩ := slR_ok hp hq hlt
  have hs0 : (slR (getA zP g j) (getA zP g (j + 1))).num ≠ 0 := fun h0 => by
    have z : qR (slR (getA zP g j) (getA zP g (j + 1))) = 0 := by unfold qR; rw [h0]; show ((0 : Int) : Rat) / _ = 0; grind
    rw [z] at s3
    have : qY g j = qY g (j + 1) := by show qR _ = qR _; grind
    grind
  refine ⟨(bkP g y j).1, ?_, ?_⟩
  · unfold bfO
    refine putsL_mem.2 (.inr ?_)
    unfold biRaw
    simp only [List.mem_flatMap, List.mem_range]
    refine ⟨j + 1, hj, List.mem_append.2 (.inr ?_)⟩
    unfold biB
    rw [mem_bif]
    refine ⟨hT, ?_⟩
    rw [biX_succ]
    exact (backO_t ho).symm
  · have e := backR_q (coord_good gp.1) (coord_good gp.2) s2 hs0 hy ho
    unfold bkP
    show (qR y - qR _) * (qR _ - qR _) = (qR _ - qR _) * (qR _ - qR _)
    rw [← e, ← s3]
    grind
/-- a list that rises, its places as a sequence -/
abbrev qZ (l : List Rt) (i : Nat) : Rat := qR (getA zR l i)
theorem ss_lt {l : List Rt} (hs : SS l) {i j : Nat} (hij : i < j) (hj : j < l.length) : qZ l i < qZ l j := by
  have := List.pairwise_iff_getElem.1 hs i j (by omega) hj hij
  show qR _ < qR _
  rw [getA_eq, getA_eq]
  simpa [List.getD, show i < l.length by omega, hj] using this
theorem ss_none {l : List Rt} (hs : SS l) {i : Nat} (hi : i + 1 < l.length) {x : Rt} (hx : x ∈ l) : ¬ (qZ l i < qR x ∧ qR x < qZ l (i + 1)) := by
  rintro ⟨h1, h2⟩
  obtain ⟨k, hk, rfl⟩ := List.getElem_of_mem hx
  have e : qR l[k] = qZ l k := by show _ = qR _; rw [getA_lt _ _ _ hk]
  rw [e] at h1 h2
  rcases Nat.lt_trichotomy k i with h | h | h
  · have := ss_lt hs h (by omega); grind
  · subst h; grind
  · rcases Nat.lt_trichotomy k (i + 1) with h3 | h3 | h3
    · omega
    · subst h3; grind
    · have := ss_lt hs h3 hk; grind
theorem ss_loc {l : List Rt} (hs : SS l) {x y : Rt} (hx : x ∈ l) (hy : y ∈ l) (hxy : qR x < qR y) {t : Rat} (h1 : qR x ≤ t) (h2 : t ≤ qR y) : ∃ i, i + 1 < l.length ∧ qZ l i ≤ t ∧ t ≤ qZ l (i + 1) := by
  obtain ⟨k, hk, rfl⟩ := List.getElem_of_mem hx
  obtain ⟨m, hm, rfl⟩ := List.getElem_of_mem hy
  have e : ∀ {k : Nat} (hk : k < l.length), qR l[k] = qZ l k := fun hk => by show _ = qR _; rw [getA_lt _ _ _ hk]
  rw [e hk] at h1 hxy
  rw [e hm] at h2 hxy
  have hkm : k < m := by
    rcases Nat.lt_or_ge k m with h | h
    · exact h
    · rcases Nat.lt_or_ge m k with h' | h'
      · have := ss_lt hs h' hk; grind
      · have : k = m := by omega
        subst this; grind
  obtain ⟨i, a, b, c⟩ := locate (fun i => qZ l (k + i)) (m - k) (t := t) (by omega) h1 (by show t ≤ qZ l (k + (m - k)); rw [show k + (m - k) = m by omega]; exact h2)
  exact ⟨k + i, by omega, b, c⟩
end Go.Vx
namespace Go.Vx
open Go
set_option maxRecDepth 100000
set_option linter.unusedSimpArgs false
set_option linter.unusedVariables false

@[irreducible] def lsR (a b : Rt) : Rt := if a.num * b.den < b.num * a.den then a else b
theorem grR_or (a b : Rt) : grR a b = a ∨ grR a b = b := by unfold grR; split <;> simp
theorem lsR_or (a b : Rt) : lsR a b = a ∨ lsR a b = b := by unfold lsR; split <;> simp
theorem grR_good {a b : Rt} (ha : goodRt a = true) (hb : goodRt b = true) : goodRt (grR a b) = true := by
  rcases grR_or a b with h | h <;> rw [h] <;> assumption
theorem lsR_good {a b : Rt} (ha : goodRt a = true) (hb : goodRt b = true) : goodRt (lsR a b) = true := by
  rcases lsR_or a b with h | h <;> rw [h] <;> assumption
theorem grR_unit {a b : Rt} (ha : unitRt a = true) (hb : unitRt b = true) : unitRt (grR a b) = true := by
  rcases grR_or a b with h | h <;> rw [h] <;> assumption
theorem lsR_unit {a b : Rt} (ha : unitRt a = true) (hb : unitRt b = true) : unitRt (lsR a b) = true := by
  rcases lsR_or a b with h | h <;> rw [h] <;> assumption
theorem grR_t {a b : Rt} (h : ltR a b) : grR a b = b := by unfold grR; rw [if_pos h]
theorem grR_f {a b : Rt} (h : ¬ ltR a b) : grR a b = a := by unfold grR; rw [if_neg h]
theorem lsR_t {a b : Rt} (h : ltR a b) : lsR a b = a := by unfold lsR; rw [if_pos h]
theorem lsR_f {a b : Rt} (h : ¬ ltR a b) : lsR a b = b := by unfold lsR; rw [if_neg h]
/-- the reference takes the new one only if it is less -/
theorem lsR_alt {a b : Rt} (ha : goodRt a = true) (hb : goodRt b = true) (h : ¬ ltR b a) : lsR a b = a := by
  rcases Int.lt_trichotomy (a.num * b.den) (b.num * a.den) with h1 | h1 | h1
  · exact lsR_t h1
  · rw [good_eq ha hb h1]; rcases lsR_or b b with h | h <;> exact h
  · exact (h h1).elim
theorem lsR_alt2 {a b : Rt} (h : ltR b a) : lsR a b = b := lsR_f (fun h2 => by have h1 : b.num * a.den < a.num * b.den := h; have h3 : a.num * b.den < b.num * a.den := h2; omega)
theorem lt_of_ne {a b : Rt} (ha : goodRt a = true) (hb : goodRt b = true) (h : ¬ ltR b a) (hn : a ≠ b) : ltR a b := by
  rcases Int.lt_trichotomy (a.num * b.den) (b.num * a.den) with h1 | h1 | h1
  · exact h1
  · exact (hn (good_eq ha hb h1)).elim
  · exact (h h1).elim

def imF (s : Rt × Rt) (y : Rt) : Rt × Rt := (lsR s.1 y, grR s.2 y)
def inB' (a b : Rt) (p : Pt) : Bool := lessRt a p.x && lessRt p.x b
def inY (a b : Rt) (l : List Pt) : List Rt := (l.filter (inB' a b)).map Pt.y
noncomputable def imS (f : List Pt) (a b : Rt) : Rt × Rt := imF (vO f a, vO f a) (vO f b)
noncomputable def imI (f : List Pt) (a b : Rt) (i : Nat) : Rt × Rt := (inY a b (f.take i)).foldl imF (imS f a b)
noncomputable def imO (f : List Pt) (a b : Rt) : Rt × Rt := imI f a b f.length
theorem inY_succ {f : List Pt} {a b : Rt} {i : Nat} (h : i < f.length) : inY a b (f.take (i + 1)) = inY a b (f.take i) ++ (if inB' a b (getA zP f i) = true then [(getA zP f i).y] else []) := by
  unfold inY
  rw [List.take_add_one, List.getElem?_eq_getElem h, List.filter_append, List.map_append, ← getA_lt zP f i h]
  congr 1
  split
  · rename_i h1; simp [h1]
  · rename_i h1; simp [h1]
theorem imI_t {f : List Pt} {a b : Rt} {i : Nat} (h : i < f.length) (h1 : inB' a b (getA zP f i) = true) : imI f a b (i + 1) = imF (imI f a b i) (getA zP f i).y := by
  unfold imI; rw [inY_succ h, if_pos h1, List.foldl_append]; rfl
theorem imI_f {f : List Pt} {a b : Rt} {i : Nat} (h : i < f.length) (h1 : ¬ inB' a b (getA zP f i) = true) : imI f a b (i + 1) = imI f a b i := by
  unfold imI; rw [inY_succ h, if_neg h1, List.append_nil]
/-- two fractions from 0 to 1, the first one not the greater -/
def Rg (s : Rt × Rt) : Prop := unitRt s.1 = true ∧ unitRt s.2 = true ∧ ¬ ltR s.2 s.1
theorem imF_rg {s : Rt × Rt} {y : Rt} (h : Rg s) (hy : unitRt y = true) : Rg (imF s y) := by
  obtain ⟨h1, h2, h3⟩ := h
  refine ⟨lsR_unit h1 hy, grR_unit h2 hy, ?_⟩
  unfold imF
  dsimp only
  have q1 := q_lt (unit_good h1) (unit_good hy)
  have q2 := q_lt (unit_good h2) (unit_good hy)
  have q3 := q_lt (unit_good h2) (unit_good h1)
  have q4 := q_lt (unit_good (lsR_unit h1 hy)) (unit_good (grR_unit h2 hy))
  have q5 := q_lt (unit_good (grR_unit h2 hy)) (unit_good (lsR_unit h1 hy))
  intro h5
  have h5 := q5.1 h5
  have h3 : ¬ qR s.2 < qR s.1 := fun h => h3 (q3.2 h)
  by_cases c1 : ltR s.1 y
  · rw [lsR_t c1] at h5
    by_cases c2 : ltR s.2 y
    · rw [grR_t c2] at h5; have := q1.1 c1; grind
    · rw [grR_f c2] at h5; exact h3 h5
  · rw [lsR_f c1] at h5
    by_cases c2 : ltR s.2 y
    · rw [grR_t c2] at h5; grind
    · rw [grR_f c2] at h5
      have c1' : ¬ qR s.1 < qR y := fun h => c1 (q1.2 h)
      grind
theorem rg_refl {y : Rt} (h : unitRt y = true) : Rg (y, y) := ⟨h, h, fun h2 => by have : y.num * y.den < y.num * y.den := h2; omega⟩
theorem imS_rg {f : List Pt} {a b : Rt} (h : mapOk f = true) (ha : unitRt a = true) (hb : unitRt b = true) : Rg (imS f a b) := imF_rg (rg_refl (vO_unit h ha)) (vO_unit h hb)
theorem imI_rg {f : List Pt} {a b : Rt} (h : mapOk f = true) (ha : unitRt a = true) (hb : unitRt b = true) : ∀ (i : Nat), i ≤ f.length → Rg (imI f a b i)
  | 0, _ => imS_rg h ha hb
  | i + 1, hi => by
    by_cases c : inB' a b (getA zP f i) = true
    · rw [imI_t (by omega) c]
      exact imF_rg (imI_rg h ha hb i (by omega)) (coord_unit (ptOk_iff.1 (map_pt h (by omega))).2)
    · rw [imI_f (by omega) c]; exact imI_rg h ha hb i (by omega)
theorem imO_rg {f : List Pt} {a b : Rt} (h : mapOk f = true) (ha : unitRt a = true) (hb : unitRt b = true) : Rg (imO f a b) := imI_rg h ha hb _ (Nat.le_refl _)
noncomputable def imB (f : List Pt) (a b : Rt) : Bool := (vR f a).2 && (vR f b).2
noncomputable def imR (f : List Pt) (a b : Rt) : Rt × Rt := match imB f a b with
  | true => imO f a b
  | false => (⟨0, 0⟩, ⟨0, 0⟩)
theorem imR_t {f : List Pt} {a b : Rt} (h1 : (vR f a).2 = true) (h2 : (vR f b).2 = true) : imR f a b = imO f a b := by unfold imR imB; rw [h1, h2]; rfl
theorem imR_f {f : List Pt} {a b : Rt} (h : imB f a b = false) : imR f a b = (⟨0, 0⟩, ⟨0, 0⟩) := by unfold imR; rw [h]

noncomputable def ivOk (i : Iv) : Bool := unitRt i.a && (unitRt i.b && lessRt i.a i.b)
theorem ivOk_iff {i : Iv} : ivOk i = true ↔ (unitRt i.a = true ∧ unitRt i.b = true ∧ ltR i.a i.b) := by
  unfold ivOk lessRt; simp

/-- images step by step; the last part is 0, 1 if a value is too large, 2 if an image is a single fraction -/
noncomputable def imgs (f : List Pt) (i : Iv) : Nat → List Iv × Iv × Nat
  | 0 => ([i], i, 0)
  | k + 1 => match (imgs f i k).2.2 with
    | 0 => match imB f (imgs f i k).2.1.a (imgs f i k).2.1.b with
      | false => ([], (imgs f i k).2.1, 1)
      | true => match decide ((imO f (imgs f i k).2.1.a (imgs f i k).2.1.b).1 = (imO f (imgs f i k).2.1.a (imgs f i k).2.1.b).2) with
        | true => ([], (imgs f i k).2.1, 2)
        | false => ((imgs f i k).1 ++ [⟨(imO f (imgs f i k).2.1.a (imgs f i k).2.1.b).1, (imO f (imgs f i k).2.1.a (imgs f i k).2.1.b).2⟩], ⟨(imO f (imgs f i k).2.1.a (imgs f i k).2.1.b).1, (imO f (imgs f i k).2.1.a (imgs f i k).2.1.b).2⟩, 0)
    | _ + 1 => imgs f i k
theorem imgs_1 {f : List Pt} {i : Iv} {k : Nat} (h : (imgs f i k).2.2 = 0) (h1 : imB f (imgs f i k).2.1.a (imgs f i k).2.1.b = false) : imgs f i (k + 1) = ([], (imgs f i k).2.1, 1) := by
  rw [imgs, h, h1]
theorem imgs_2 {f : List Pt} {i : Iv} {k : Nat} (h : (imgs f i k).2.2 = 0) (h1 : imB f (imgs f i k).2.1.a (imgs f i k).2.1.b = true) (h2 : (imO f (imgs f i k).2.1.a (imgs f i k).2.1.b).1 = (imO f (imgs f i k).2.1.a (imgs f i k).2.1.b).2) : imgs f i (k + 1) = ([], (imgs f i k).2.1, 2) := by
  rw [imgs, h, h1, decide_eq_true h2]
theorem imgs_0 {f : List Pt} {i : Iv} {k : Nat} (h : (imgs f i k).2.2 = 0) (h1 : imB f (imgs f i k).2.1.a (imgs f i k).2.1.b = true) (h2 : ¬ (imO f (imgs f i k).2.1.a (imgs f i k).2.1.b).1 = (imO f (imgs f i k).2.1.a (imgs f i k).2.1.b).2) : imgs f i (k + 1) = ((imgs f i k).1 ++ [⟨(imO f (imgs f i k).2.1.a (imgs f i k).2.1.b).1, (imO f (imgs f i k).2.1.a (imgs f i k).2.1.b).2⟩], ⟨(imO f (imgs f i k).2.1.a (imgs f i k).2.1.b).1, (imO f (imgs f i k).2.1.a (imgs f i k).2.1.b).2⟩, 0) := by
  rw [imgs, h, h1, decide_eq_false h2]
theorem imgs_stay {f : List Pt} {i : Iv} {k : Nat} (h : (imgs f i k).2.2 ≠ 0) : ∀ {n : Nat}, k ≤ n → imgs f i n = imgs f i k
  | n, hn => by
    induction n with
    | zero => rw [show k = 0 by omega]
    | succ n ih =>
      rcases Nat.lt_or_eq_of_le hn with h1 | h1
      · have e := ih (by omega)
        rw [imgs]
        split
        · rename_i h2; rw [e] at h2; exact (h h2).elim
        · exact e
      · rw [h1]
/-- what holds as long as nothing has gone wrong -/
theorem imgs_inv {f : List Pt} {i : Iv} (h : mapOk f = true) (hi : ivOk i = true) : ∀ (k : Nat), ((imgs f i k).2.2 = 0 → (imgs f i k).1.length = k + 1 ∧ ivOk (imgs f i k).2.1 = true ∧ (∀ j ∈ (imgs f i k).1, ivOk j = true) ∧ getA (VK.dflt .iv) (imgs f i k).1 0 = i) ∧ ((imgs f i k).2.2 ≠ 0 → (imgs f i k).1 = [])
  | 0 => ⟨fun _ => ⟨rfl, hi, fun j hj => by have : j = i := by simpa [imgs] using hj
                                            rw [this]; exact hi, rfl⟩, fun h => (h rfl).elim⟩
  | k + 1 => by
    obtain ⟨i1, i2⟩ := imgs_inv h hi k
    by_cases c0 : (imgs f i k).2.2 = 0
    · obtain ⟨j1, j2, j3, j4⟩ := i1 c0
      cases c1 : imB f (imgs f i k).2.1.a (imgs f i k).2.1.b with
      | false => rw [imgs_1 c0 c1]; exact ⟨(fun h => by cases h), fun _ => rfl⟩
      | true =>
        by_cases c2 : (imO f (imgs f i k).2.1.a (imgs f i k).2.1.b).1 = (imO f (imgs f i k).2.1.a (imgs f i k).2.1.b).2
        · rw [imgs_2 c0 c1 c2]; exact ⟨(fun h => by cases h), fun _ => rfl⟩
        · rw [imgs_0 c0 c1 c2]
          have hv := ivOk_iff.1 j2
          obtain ⟨r1, r2, r3⟩ := imO_rg h hv.1 hv.2.1
          have hn : ivOk ⟨(imO f (imgs f i k).2.1.a (imgs f i k).2.1.b).1, (imO f (imgs f i k).2.1.a (imgs f i k).2.1.b).2⟩ = true := ivOk_iff.2 ⟨r1, r2, lt_of_ne (unit_good r1) (unit_good r2) r3 c2⟩
          refine ⟨fun _ => ⟨by simp [j1], hn, fun j hj => ?_, ?_⟩, fun h => (h rfl).elim⟩
          · rcases List.mem_append.1 hj with hj | hj
            · exact j3 j hj
            · rw [List.mem_singleton.1 hj]; exact hn
          · dsimp only
            rw [getA_lt _ _ _ (by simp), List.getElem_append_left (by omega), ← getA_lt (VK.dflt .iv) _ _ (by omega)]
            exact j4
    · rw [imgs_stay c0 (Nat.le_succ k)]
      exact ⟨fun h0 => (c0 h0).elim, i2⟩
def liesR (i k : Iv) : Bool := !lessRt i.a k.a && !lessRt k.b i.b
def meetR (i k : Iv) : Bool := lessRt (grR i.a k.a) (lsR i.b k.b)
def sepR (i k : Iv) : Bool := !lessRt k.a i.b || !lessRt i.a k.b
theorem meet_sep {i k : Iv} (hi : ivOk i = true) (hk : ivOk k = true) : meetR i k = !sepR i k := by
  obtain ⟨a1, a2, a3⟩ := ivOk_iff.1 hi
  obtain ⟨b1, b2, b3⟩ := ivOk_iff.1 hk
  have g1 := unit_good a1
  have g2 := unit_good a2
  have g3 := unit_good b1
  have g4 := unit_good b2
  have l1 := (q_lt g1 g2).1 a3
  have l2 := (q_lt g3 g4).1 b3
  have e : ∀ {a b : Rt}, goodRt a = true → goodRt b = true → lessRt a b = decide (qR a < qR b) := fun ha hb => by
    unfold lessRt; exact decide_eq_decide.2 (q_lt ha hb)
  unfold meetR sepR
  rw [e (grR_good g1 g3) (lsR_good g2 g4), e g3 g2, e g1 g4]
  by_cases c1 : ltR i.a k.a
  · have := (q_lt g1 g3).1 c1
    rw [grR_t c1]
    by_cases c2 : ltR i.b k.b
    · have := (q_lt g2 g4).1 c2
      rw [lsR_t c2]
      by_cases c3 : qR k.a < qR i.b
      · have : qR i.a < qR k.b := by grind
        simp [c3, this]
      · simp [c3]
    · have c2 : ¬ qR i.b < qR k.b := fun h => c2 ((q_lt g2 g4).2 h)
      rw [lsR_f (fun h => c2 ((q_lt g2 g4).1 h))]
      have h1 : qR k.a < qR k.b := l2
      have h2 : qR k.a < qR i.b := by grind
      have h3 : qR i.a < qR k.b := by grind
      simp [h1, h2, h3]
  · have c1' : ¬ qR i.a < qR k.a := fun h => c1 ((q_lt g1 g3).2 h)
    rw [grR_f c1]
    by_cases c2 : ltR i.b k.b
    · have := (q_lt g2 g4).1 c2
      rw [lsR_t c2]
      have h2 : qR k.a < qR i.b := by grind
      have h3 : qR i.a < qR k.b := by grind
      simp [l1, h2, h3]
    · have c2' : ¬ qR i.b < qR k.b := fun h => c2 ((q_lt g2 g4).2 h)
      rw [lsR_f c2]
      by_cases c3 : qR i.a < qR k.b
      · have : qR k.a < qR i.b := by grind
        simp [c3, this]
      · simp [c3]
end Go.Vx
