/- Conjugate maps: plain laws. -/
import Derived.Test.YtlknhfldkkjclaaVpMo
namespace Go.Vx
open Go
set_option maxRecDepth 100000
set_option linter.unusedSimpArgs false
set_option linter.unusedVariables false

theorem low_zero {d : Int} (h : d ≠ 0) (h1 : -1000000000000000000 ≤ d ∧ d ≤ 1000000000000000000) : lowRt 0 d = (⟨0, 1⟩, true) := by
  have hg : gsgn 0 d = d := by
    unfold gsgn
    rw [Int.gcd_zero_left]
    split <;> omega
  have e : (⟨(0 : Int).tdiv (gsgn 0 d), d.tdiv (gsgn 0 d)⟩ : Rt) = ⟨0, 1⟩ := by
    rw [hg, Int.zero_tdiv, Int.tdiv_self h]
  have : goodRt ⟨(0 : Int).tdiv (gsgn 0 d), d.tdiv (gsgn 0 d)⟩ = true := by rw [e]; exact good_zero
  rw [lowRt_t this, e]
theorem div_zero_l {s : Rt} (hs : goodRt s = true) (h : s.num ≠ 0) : divRt ⟨0, 1⟩ s = (⟨0, 1⟩, true) := by
  rw [goodRt_iff] at hs
  unfold divRt
  dsimp only
  rw [Int.zero_mul, Int.one_mul]
  exact low_zero h (by omega)
theorem backO_unit {p q : Pt} {y : Rt} (hp : ptOk p = true) (hq : ptOk q = true) (h : ltR p.x q.x) (hy : goodRt y = true) (hc : crP p q y = true) : unitRt (backO p (slR p q) y) = true := by
  have gx := coord_good (ptOk_iff.1 hp).1
  have ux := coord_unit (ptOk_iff.1 hp).1
  obtain ⟨s1, s2, s3⟩ := slR_ok hp hq h
  cases ho : (backR p (slR p q) y).2 with
  | true => rw [backO_t ho]; exact cross_unit hp hq h hy hc ho
  | false =>
    unfold backO
    cases e1 : (subRt y p.y).2 with
    | false =>
      rw [opR_f e1]
      by_cases h0 : (slR p q).num = 0
      · exfalso
        have hc' : cmpRt p.y y * cmpRt q.y y < 0 := of_decide_eq_true hc
        have gy := coord_good (ptOk_iff.1 hp).2
        have gY := coord_good (ptOk_iff.1 hq).2
        have z : qR (slR p q) = 0 := by
          have a := q_negR s2
          have b := q_pos s2
          by_cases h5 : qR (slR p q) < 0
          · have := a.2 h5; omega
          · by_cases h6 : 0 < qR (slR p q)
            · have := b.2 h6; omega
            · grind
        rw [z] at s3
        have e : p.y = q.y := q_inj gy gY (by grind)
        rw [← e] at hc'
        rcases cmp_1 p.y y with h5 | h5 | h5 <;> rw [h5] at hc' <;> revert hc' <;> decide
      · rw [div_zero_l s2 h0, opR_p, add_zero_r gx, opR_p]; exact ux
    | true =>
      cases e2 : (divRt (opR (subRt y p.y)) (slR p q)).2 with
      | false => rw [opR_f e2, add_zero_r gx, opR_p]; exact ux
      | true =>
        cases e3 : (addRt p.x (opR (divRt (opR (subRt y p.y)) (slR p q)))).2 with
        | false => rw [opR_f e3]; exact unit_zero
        | true =>
          exfalso
          have := back_flag false p (slR p q) y
          rw [e1, e2, e3, ho] at this
          cases this
theorem bf_unitA {f : List Pt} {y x : Rt} (hf : mapOk f = true) (hy : goodRt y = true) (hx : x ∈ bfO f y) : unitRt x = true := by
  unfold bfO biRaw at hx
  obtain ⟨m1, m2, m3, m4, m5⟩ := mapOk_iff.1 hf
  rcases putsL_mem.1 hx with h | h
  · cases h
  · simp only [List.mem_flatMap, List.mem_range, biA, biB, List.mem_append, mem_bif] at h
    obtain ⟨i, hi, ⟨_, h2⟩ | ⟨h1, h2⟩⟩ := h
    · rw [h2]; exact coord_unit (ptOk_iff.1 (map_pt hf hi)).1
    · obtain ⟨k, rfl⟩ : ∃ k, i = k + 1 := ⟨i - 1, by
        rcases Nat.eq_zero_or_pos i with h0 | h0
        · rw [h0, biT_zero] at h1; cases h1
        · omega⟩
      rw [biT_succ] at h1
      rw [biX_succ] at h2
      rw [h2]
      exact backO_unit (map_pt hf (by omega)) (map_pt hf hi) (m5 k hi) hy h1
theorem bd_unitA {f h : List Pt} {x : Rt} (hf : mapOk f = true) (hh : mapOk h = true) (hx : x ∈ bdO f h) : unitRt x = true := by
  unfold bdO bdRaw at hx
  rcases putsL_mem.1 hx with h1 | h1
  · cases h1
  · rcases List.mem_append.1 h1 with h1 | h1
    · rcases List.mem_append.1 h1 with h1 | h1
      · exact mapx_unit hf h1
      · exact mapx_unit hh h1
    · simp only [List.mem_flatMap, List.mem_range] at h1
      obtain ⟨i, hi, h2⟩ := h1
      exact bf_unitA hf (pt_gd hh hi) h2

/-! ### points of a rising list, without those between pieces of the same slope -/
@[irreducible] def rsOk (l : List Pt) : Prop := (∀ p ∈ l, ptOk p = true) ∧ ∀ i, i + 1 < l.length → ltR (getA zP l i).x (getA zP l (i + 1)).x
theorem rsOk_iff {l : List Pt} : rsOk l ↔ ((∀ p ∈ l, ptOk p = true) ∧ ∀ i, i + 1 < l.length → ltR (getA zP l i).x (getA zP l (i + 1)).x) := by unfold rsOk; exact Iff.rfl
theorem rs_pt {l : List Pt} (h : rsOk l) {i : Nat} (hi : i < l.length) : ptOk (getA zP l i) = true := (rsOk_iff.1 h).1 _ (getA_mem _ hi)
theorem rs_lt {l : List Pt} (h : rsOk l) {i : Nat} (hi : i + 1 < l.length) : ltR (getA zP l i).x (getA zP l (i + 1)).x := (rsOk_iff.1 h).2 i hi
noncomputable def smT (l : List Pt) (i : Nat) : Bool := !eqRt (slR (getA zP l (i - 1)) (getA zP l i)) (slR (getA zP l i) (getA zP l (i + 1)))
theorem smT_succ (l : List Pt) (i : Nat) : smT l (i + 1) = !eqRt (slR (getA zP l i) (getA zP l (i + 1))) (slR (getA zP l (i + 1)) (getA zP l (i + 1 + 1))) := rfl
noncomputable def smI (l : List Pt) (i : Nat) : List Pt := bif (decide (i + 1 = l.length) || smT l i) then [getA zP l i] else []
@[irreducible] noncomputable def smK (l : List Pt) (n : Nat) : List Pt := [getA zP l 0] ++ (List.range n).flatMap fun j => smI l (j + 1)
theorem smK_zero (l : List Pt) : smK l 0 = [getA zP l 0] := by unfold smK; simp
theorem smK_succ (l : List Pt) (n : Nat) : smK l (n + 1) = smK l n ++ smI l (n + 1) := by unfold smK; rw [List.range_succ, List.flatMap_append]; simp
theorem smI_t {l : List Pt} {i : Nat} (h : i + 1 = l.length ∨ smT l i = true) : smI l i = [getA zP l i] := by
  unfold smI
  rcases h with h | h
  · rw [decide_eq_true h]; rfl
  · rw [h, Bool.or_true]; rfl
theorem smI_f {l : List Pt} {i : Nat} (h : ¬ i + 1 = l.length) (h2 : smT l i = false) : smI l i = [] := by
  unfold smI; rw [decide_eq_false h, h2]; rfl
theorem smK_len (l : List Pt) : ∀ n, (smK l n).length ≤ n + 1
  | 0 => by rw [smK_zero]; simp
  | n + 1 => by
    have := smK_len l n
    have h2 : (smI l (n + 1)).length ≤ 1 := by unfold smI; cases (decide (n + 1 + 1 = l.length) || smT l (n + 1)) <;> simp
    rw [smK_succ, List.length_append]; omega
@[irreducible] noncomputable def smL (l : List Pt) : List Pt := smK l (l.length - 1)
theorem smL_len (l : List Pt) : (smL l).length ≤ l.length - 1 + 1 := by unfold smL; exact smK_len l _

/-! ### the conjugate map -/
@[irreducible] noncomputable def cmL (f h : List Pt) (n : Nat) : List Pt := (List.range n).map fun i => ⟨vO h (getA zR (bdO f h) i), vO h (vO f (getA zR (bdO f h) i))⟩
theorem cmL_zero (f h : List Pt) : cmL f h 0 = [] := by unfold cmL; rfl
theorem cmL_succ (f h : List Pt) (n : Nat) : cmL f h (n + 1) = cmL f h n ++ [⟨vO h (getA zR (bdO f h) n), vO h (vO f (getA zR (bdO f h) n))⟩] := by unfold cmL; rw [List.range_succ, List.map_append]; rfl
theorem cmL_len (f h : List Pt) (n : Nat) : (cmL f h n).length = n := by unfold cmL; simp
theorem cmL_get {f h : List Pt} {n i : Nat} (hi : i < n) : getA zP (cmL f h n) i = ⟨vO h (getA zR (bdO f h) i), vO h (vO f (getA zR (bdO f h) i))⟩ := by
  unfold cmL
  rw [getA_eq]; simp [List.getD, hi]
@[irreducible] noncomputable def cmG (f h : List Pt) (n : Nat) : Bool := bdG f h && (List.range n).all fun i => (vR h (getA zR (bdO f h) i)).2 && (twR f h (getA zR (bdO f h) i)).2
theorem cmG_zero (f h : List Pt) : cmG f h 0 = bdG f h := by unfold cmG; simp
theorem cmG_succ (f h : List Pt) (n : Nat) : cmG f h (n + 1) = (cmG f h n && ((vR h (getA zR (bdO f h) n)).2 && (twR f h (getA zR (bdO f h) n)).2)) := by unfold cmG; rw [List.range_succ, List.all_append]; simp [Bool.and_assoc]
theorem cm_flag {f h : List Pt} {i : Nat} : (((!cmG f h i || !(vR h (getA zR (bdO f h) i)).2) || !(vR f (getA zR (bdO f h) i)).2) || !(vR h (vO f (getA zR (bdO f h) i))).2) = !cmG f h (i + 1) := by
  rw [cmG_succ, twR_g]
  generalize cmG f h i = a
  generalize (vR h (getA zR (bdO f h) i)).2 = b
  generalize (vR f (getA zR (bdO f h) i)).2 = c
  generalize (vR h (vO f (getA zR (bdO f h) i))).2 = d
  cases a <;> cases b <;> cases c <;> cases d <;> rfl
theorem cmG_at {f h : List Pt} : ∀ {n : Nat}, cmG f h n = true → bdG f h = true ∧ ∀ i, i < n → (vR h (getA zR (bdO f h) i)).2 = true ∧ (twR f h (getA zR (bdO f h) i)).2 = true
  | 0, hg => by rw [cmG_zero] at hg; exact ⟨hg, fun i hi => by omega⟩
  | n + 1, hg => by
    rw [cmG_succ, Bool.and_eq_true, Bool.and_eq_true] at hg
    obtain ⟨a, b⟩ := cmG_at hg.1
    refine ⟨a, fun i hi => ?_⟩
    by_cases e : i = n
    · rw [e]; exact hg.2
    · exact b i (by omega)
/-- the points of the conjugate map -/
noncomputable abbrev cmN (f h : List Pt) : Nat := (bdO f h).length
noncomputable def cmK (f h : List Pt) (n : Nat) : Bool := cmG f h n && (cmL f h n).all ptOk
noncomputable def cmF (f h : List Pt) : List Pt × Bool := match mapOk (smL (cmL f h (cmN f h))) with
  | true => (smL (cmL f h (cmN f h)), true)
  | false => ([], false)
noncomputable def cmR (f h : List Pt) : List Pt × Bool := match cmK f h (cmN f h) with
  | true => cmF f h
  | false => ([], false)
noncomputable def cmRes (f h : List Pt) : List Pt × Bool := match mapOk f && chOk h with
  | true => cmR f h
  | false => ([], false)
theorem cmR_t {f h : List Pt} (hk : cmK f h (cmN f h) = true) : cmR f h = cmF f h := by unfold cmR; rw [hk]
theorem cmR_f {f h : List Pt} (hk : cmK f h (cmN f h) = false) : cmR f h = ([], false) := by unfold cmR; rw [hk]
theorem cmF_t {f h : List Pt} (hk : mapOk (smL (cmL f h (cmN f h))) = true) : cmF f h = (smL (cmL f h (cmN f h)), true) := by unfold cmF; rw [hk]
theorem cmF_f {f h : List Pt} (hk : mapOk (smL (cmL f h (cmN f h))) = false) : cmF f h = ([], false) := by unfold cmF; rw [hk]
theorem cmRes_t {f h : List Pt} (h1 : mapOk f = true) (h2 : chOk h = true) : cmRes f h = cmR f h := by unfold cmRes; rw [h1, h2]; rfl
theorem cmRes_f1 {f h : List Pt} (h1 : mapOk f = false) : cmRes f h = ([], false) := by unfold cmRes; rw [h1]; rfl
theorem cmRes_f2 {f h : List Pt} (h1 : chOk h = false) : cmRes f h = ([], false) := by unfold cmRes; rw [h1, Bool.and_false]
theorem cmRes_len (f h : List Pt) : (cmRes f h).1.length ≤ 12 := by
  unfold cmRes
  split
  · unfold cmR
    split
    · unfold cmF
      split
      · rename_i hm; exact (mapOk_iff.1 hm).1.2
      · exact Nat.zero_le _
    · exact Nat.zero_le _
  · exact Nat.zero_le _
/-- the bends: 0 and 1 at least -/
theorem bd_two {f h : List Pt} (hf : mapOk f = true) (hh : mapOk h = true) : 2 ≤ cmN f h := by
  obtain ⟨m1, m2, m3, m4, m5⟩ := mapOk_iff.1 hf
  have mem : ∀ p ∈ f, p.x ∈ bdO f h := fun p hp => by
    unfold bdO bdRaw
    exact putsL_mem.2 (.inr (List.mem_append.2 (.inl (List.mem_append.2 (.inl (List.mem_map_of_mem hp))))))
  have h0 : (⟨0, 1⟩ : Rt) ∈ bdO f h := by rw [← m3]; exact mem _ (getA_mem _ (by omega))
  have h1 : (⟨1, 1⟩ : Rt) ∈ bdO f h := by rw [← m4]; exact mem _ (getA_mem _ (by omega))
  revert h0 h1
  show _ → _ → 2 ≤ (bdO f h).length
  generalize bdO f h = l
  intro h0 h1
  match l, h0, h1 with
  | [], h0, _ => cases h0
  | [x], h0, h1 =>
    rw [List.mem_singleton] at h0 h1
    rw [← h0] at h1
    cases h1
  | _ :: _ :: r, _, _ => simp
theorem ss_get {l : List Rt} (hs : SS l) {i : Nat} (hi : i + 1 < l.length) : qR (getA zR l i) < qR (getA zR l (i + 1)) := by
  have := List.pairwise_iff_getElem.1 hs i (i + 1) (by omega) hi (by omega)
  rw [getA_eq, getA_eq]
  simpa [List.getD, show i < l.length by omega, hi] using this
theorem cm_rs {f h : List Pt} (hf : mapOk f = true) (hc : chOk h = true) (hk : cmK f h (cmN f h) = true) : rsOk (cmL f h (cmN f h)) := by
  have hh := (chOk_iff.1 hc).1
  unfold cmK at hk
  rw [Bool.and_eq_true, List.all_eq_true] at hk
  obtain ⟨g1, g2⟩ := cmG_at hk.1
  refine rsOk_iff.2 ⟨hk.2, fun i hi => ?_⟩
  rw [cmL_len] at hi
  rw [cmL_get (by omega), cmL_get hi]
  show ltR (vO h _) (vO h _)
  have u1 : unitRt (getA zR (bdO f h) i) = true := bd_unitA hf hh (getA_mem _ (show i < (bdO f h).length from Nat.lt_of_succ_lt hi))
  have u2 : unitRt (getA zR (bdO f h) (i + 1)) = true := bd_unitA hf hh (getA_mem _ hi)
  have o1 := (g2 i (by omega)).1
  have o2 := (g2 (i + 1) hi).1
  rw [vO_t o1, vO_t o2]
  exact (q_lt (vR_good hh u1 o1) (vR_good hh u2 o2)).2 (vR_mono hc u1 u2 o1 o2 (ss_get (bdO_ss hf hh) (show i + 1 < (bdO f h).length from hi)))
/-- a point whose denominators are too large -/
def bigP (p : Pt) : Bool := bif decide (100 < p.x.den) then true else decide (100 < p.y.den)
theorem pt_big {p : Pt} (hx : unitRt p.x = true) (hy : unitRt p.y = true) : ptOk p = !bigP p := by
  have e : ∀ r : Rt, unitRt r = true → coordRt r = !decide (100 < r.den) := fun r hr => by
    unfold coordRt
    rw [hr, Bool.true_and]
    by_cases h : 100 < r.den
    · rw [decide_eq_true h, decide_eq_false (by omega)]; rfl
    · rw [decide_eq_false h, decide_eq_true (by omega)]; rfl
  unfold ptOk bigP
  rw [e _ hx, e _ hy]
  cases decide (100 < p.x.den) <;> cases decide (100 < p.y.den) <;> rfl
theorem cm_units {f h : List Pt} (hf : mapOk f = true) (hc : chOk h = true) : ∀ p ∈ cmL f h (cmN f h), unitRt p.x = true ∧ unitRt p.y = true := by
  have hh := (chOk_iff.1 hc).1
  intro p hp
  unfold cmL at hp
  obtain ⟨i, hi, rfl⟩ := List.mem_map.1 hp
  have hi := List.mem_range.1 hi
  have u1 : unitRt (getA zR (bdO f h) i) = true := bd_unitA hf hh (getA_mem _ hi)
  exact ⟨vO_unit hh u1, vO_unit hh (vO_unit hf u1)⟩
theorem cm_big {f h : List Pt} (hf : mapOk f = true) (hc : chOk h = true) : (cmL f h (cmN f h)).all ptOk = !(cmL f h (cmN f h)).any bigP := by
  have hu := cm_units hf hc
  revert hu
  generalize cmL f h (cmN f h) = l
  induction l with
  | nil => intro _; rfl
  | cons p r ih =>
    intro hu
    have := hu p (by simp)
    rw [List.all_cons, List.any_cons, ih (fun q hq => hu q (by simp [hq])), pt_big this.1 this.2]
    cases bigP p <;> rfl

noncomputable def mdR (l : List Pt) : List Pt × Bool := match l.any bigP with
  | true => ([], false)
  | false => (smL l, mapOk (smL l))
theorem mdR_t {l : List Pt} (h : l.any bigP = true) : mdR l = ([], false) := by unfold mdR; rw [h]
theorem mdR_f {l : List Pt} (h : l.any bigP = false) : mdR l = (smL l, mapOk (smL l)) := by unfold mdR; rw [h]
noncomputable def fnR (c : Bool) (l : List Pt) : List Pt × Bool := match c with
  | true => ([], false)
  | false => match (mdR l).2 with
    | true => ((mdR l).1, true)
    | false => ([], false)
theorem fnR_c (l : List Pt) : fnR true l = ([], false) := rfl
theorem fnR_t {c : Bool} {l : List Pt} (hc : c = false) (h : (mdR l).2 = true) : fnR c l = ((mdR l).1, true) := by subst hc; unfold fnR; rw [h]
theorem fnR_f {c : Bool} {l : List Pt} (h : (mdR l).2 = false) : fnR c l = ([], false) := by
  cases c
  · unfold fnR; rw [h]
  · rfl
theorem fn_eq {f h : List Pt} (hf : mapOk f = true) (hc : chOk h = true) : fnR (!cmG f h (cmN f h)) (cmL f h (cmN f h)) = cmR f h := by
  have hb := cm_big hf hc
  cases hg : cmG f h (cmN f h) with
  | false =>
    have : cmK f h (cmN f h) = false := by unfold cmK; rw [hg]; rfl
    rw [cmR_f this]; rfl
  | true =>
    cases ha : (cmL f h (cmN f h)).any bigP with
    | true =>
      rw [ha] at hb
      have : cmK f h (cmN f h) = false := by unfold cmK; rw [hg, hb]; rfl
      rw [cmR_f this, fnR_f (by rw [mdR_t ha])]
    | false =>
      rw [ha] at hb
      have : cmK f h (cmN f h) = true := by unfold cmK; rw [hg, hb]; rfl
      rw [cmR_t this]
      cases hm : mapOk (smL (cmL f h (cmN f h))) with
      | true => rw [cmF_t hm, Bool.not_true, fnR_t rfl (by rw [mdR_f ha]; exact hm), mdR_f ha]
      | false => rw [cmF_f hm, fnR_f (by rw [mdR_f ha]; exact hm)]
theorem cm_rs' {f h : List Pt} (hf : mapOk f = true) (hc : chOk h = true) (hg : cmG f h (cmN f h) = true) (ha : (cmL f h (cmN f h)).any bigP = false) : rsOk (cmL f h (cmN f h)) := by
  refine cm_rs hf hc ?_
  unfold cmK
  rw [cm_big hf hc, ha, hg]; rfl
theorem cmK_zero {f h : List Pt} (hg : bdG f h = true) : cmK f h 0 = true := by unfold cmK; rw [cmG_zero, hg, cmL_zero]; rfl
theorem cmK_next {f h : List Pt} {i : Nat} (hk : cmK f h i = true) (h1 : (vR h (getA zR (bdO f h) i)).2 = true) (h2 : (twR f h (getA zR (bdO f h) i)).2 = true) (h3 : coordRt (vR h (getA zR (bdO f h) i)).1 = true) (h4 : coordRt (twR f h (getA zR (bdO f h) i)).1 = true) : cmK f h (i + 1) = true := by
  unfold cmK at hk ⊢
  rw [Bool.and_eq_true] at hk
  rw [cmG_succ, hk.1, h1, h2, cmL_succ, List.all_append, hk.2]
  have e2 := twO_t h2
  unfold twO at e2
  simp only [List.all_cons, List.all_nil, Bool.and_true, Bool.true_and]
  unfold ptOk
  dsimp only
  rw [vO_t h1, e2, h3, h4]; rfl
theorem cmL_next {f h : List Pt} {i : Nat} (h1 : (vR h (getA zR (bdO f h) i)).2 = true) (h2 : (twR f h (getA zR (bdO f h) i)).2 = true) : cmL f h i ++ [⟨(vR h (getA zR (bdO f h) i)).1, (twR f h (getA zR (bdO f h) i)).1⟩] = cmL f h (i + 1) := by
  have e2 := twO_t h2
  unfold twO at e2
  rw [cmL_succ, vO_t h1, e2]
theorem cmK_f0 {f h : List Pt} {n : Nat} (hb : bdG f h = false) : cmK f h n = false := by
  unfold cmK
  cases hg : cmG f h n
  · rfl
  · rw [(cmG_at hg).1] at hb; cases hb
theorem cmK_f {f h : List Pt} {i n : Nat} (hi : i < n) (hb : ¬ ((vR h (getA zR (bdO f h) i)).2 = true ∧ (twR f h (getA zR (bdO f h) i)).2 = true ∧ coordRt (vR h (getA zR (bdO f h) i)).1 = true ∧ coordRt (twR f h (getA zR (bdO f h) i)).1 = true)) : cmK f h n = false := by
  cases hk : cmK f h n
  · rfl
  · exfalso
    unfold cmK at hk
    rw [Bool.and_eq_true, List.all_eq_true] at hk
    obtain ⟨a, b⟩ := (cmG_at hk.1).2 i hi
    have hp := hk.2 _ (getA_mem zP (l := cmL f h n) (i := i) (by rw [cmL_len]; exact hi))
    rw [cmL_get hi, ptOk_iff] at hp
    have e2 := twO_t b
    unfold twO at e2
    dsimp only at hp
    rw [vO_t a, e2] at hp
    exact hb ⟨a, b, hp.1, hp.2⟩
end Go.Vx
