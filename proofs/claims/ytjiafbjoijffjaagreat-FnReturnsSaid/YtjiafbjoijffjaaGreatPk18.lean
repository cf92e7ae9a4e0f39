/- The values of a change rise: plain law. -/
import Derived.Test.YtjiafbjoijffjaaGreatPk15
import Derived.Test.YtjiafbjoijffjaaGreatPk17
namespace Go.Vx
open Go
set_option maxRecDepth 100000
set_option linter.unusedSimpArgs false
set_option linter.unusedVariables false

theorem Gd.app {l m : List Rt} (h1 : Gd l) (h2 : Gd m) : Gd (l ++ m) := fun x hx => by
  rcases List.mem_append.1 hx with h | h
  · exact h1 x h
  · exact h2 x h
theorem Gd.one {x : Rt} (h : goodRt x = true) : Gd [x] := fun z hz => by rw [List.mem_singleton.1 hz]; exact h
theorem Gd.bif {b : Bool} {l : List Rt} (h : Gd l) : Gd (bif b then l else []) := by cases b; exact Gd.nil; exact h
theorem len_bif {b : Bool} {x : Rt} : (bif b then [x] else []).length ≤ 1 := by cases b <;> simp
theorem cmpRt_zero {a b : Rt} (ha : goodRt a = true) (hb : goodRt b = true) : cmpRt a b = 0 ↔ a = b := by
  constructor
  · intro h
    refine good_eq ha hb ?_
    unfold cmpRt sgn at h
    split at h
    · cases h
    · split at h
      · cases h
      · omega
  · rintro rfl
    unfold cmpRt
    rw [Int.sub_self]; rfl

def crP (p q : Pt) (y : Rt) : Bool := decide (cmpRt p.y y * cmpRt q.y y < 0)
noncomputable def bkP (f : List Pt) (y : Rt) (i : Nat) : Rt × Bool := backR (getA zP f i) (slR (getA zP f i) (getA zP f (i + 1))) y
/-- what is added at point number i, and at the piece that ends there -/
def biA (f : List Pt) (y : Rt) (i : Nat) : List Rt := bif eqRt (getA zP f i).y y then [(getA zP f i).x] else []
abbrev prI (i : Nat) : Nat := ((i : Int) - 1).toNat
theorem prI_succ (i : Nat) : prI (i + 1) = i := by show (((i + 1 : Nat) : Int) - 1).toNat = i; omega
def biT (f : List Pt) (y : Rt) (i : Nat) : Bool := bif decide ((0 : Int) < (i : Int)) then decide (cmpRt (getA zP f (prI i)).y y * cmpRt (getA zP f i).y y < 0) else false
noncomputable def biX (f : List Pt) (y : Rt) (i : Nat) : Rt := backO (getA zP f (prI i)) (slR (getA zP f (prI i)) (getA zP f i)) y
noncomputable def biB (f : List Pt) (y : Rt) (i : Nat) : List Rt := bif biT f y i then [biX f y i] else []
@[irreducible] noncomputable def biRaw (f : List Pt) (y : Rt) (n : Nat) : List Rt := (List.range n).flatMap fun i => biA f y i ++ biB f y i
theorem biRaw_zero (f : List Pt) (y : Rt) : biRaw f y 0 = [] := by unfold biRaw; rfl
theorem biRaw_succ (f : List Pt) (y : Rt) (n : Nat) : biRaw f y (n + 1) = biRaw f y n ++ (biA f y n ++ biB f y n) := by unfold biRaw; rw [List.range_succ, List.flatMap_append]; simp
@[irreducible] noncomputable def biG (f : List Pt) (y : Rt) (n : Nat) : Bool := (List.range n).all fun i => !biT f y i || (backR (getA zP f (prI i)) (slR (getA zP f (prI i)) (getA zP f i)) y).2
theorem biG_zero (f : List Pt) (y : Rt) : biG f y 0 = true := by unfold biG; rfl
theorem biG_succ (f : List Pt) (y : Rt) (n : Nat) : biG f y (n + 1) = (biG f y n && (!biT f y n || (backR (getA zP f (prI n)) (slR (getA zP f (prI n)) (getA zP f n)) y).2)) := by unfold biG; rw [List.range_succ, List.all_append]; simp
theorem biRaw_len (f : List Pt) (y : Rt) : ∀ n, (biRaw f y n).length ≤ 2 * n
  | 0 => by rw [biRaw_zero]; simp
  | n + 1 => by
    have h := biRaw_len f y n
    have h1 : (biA f y n).length ≤ 1 := len_bif
    have h2 : (biB f y n).length ≤ 1 := len_bif
    rw [biRaw_succ, List.length_append, List.length_append]; omega
theorem backO_good {p : Pt} {s y : Rt} : goodRt (backO p s y) = true := by unfold backO; exact opR_good
theorem biRaw_gd {f : List Pt} {y : Rt} (hf : mapOk f = true) : ∀ {n : Nat}, n ≤ f.length → Gd (biRaw f y n)
  | 0, _ => by rw [biRaw_zero]; exact Gd.nil
  | n + 1, h => by
    rw [biRaw_succ]
    refine (biRaw_gd hf (by omega)).app (Gd.app (Gd.bif (Gd.one ?_)) (Gd.bif (Gd.one (by unfold biX; exact backO_good))))
    exact coord_good (ptOk_iff.1 (map_pt hf (by omega))).1
@[irreducible] noncomputable def bfO (f : List Pt) (y : Rt) : List Rt := putsL [] (biRaw f y f.length)
@[irreducible] noncomputable def bfG (f : List Pt) (y : Rt) : Bool := biG f y f.length
theorem bfO_len {f : List Pt} {y : Rt} (h : f.length ≤ 12) : (bfO f y).length ≤ 24 := by
  unfold bfO
  have h1 := putsL_len (biRaw f y f.length) []
  have h2 := biRaw_len f y f.length
  simp only [List.length_nil] at h1
  omega
theorem bfO_gd {f : List Pt} {y : Rt} (hf : mapOk f = true) : Gd (bfO f y) := by unfold bfO; exact putsL_good Gd.nil (biRaw_gd hf (Nat.le_refl _))

/-- what the reference adds at a piece -/
noncomputable def bsA (f : List Pt) (y : Rt) (i : Nat) : List Rt := (bif decide (cmpRt (getA zP f i).y y = 0) then [(getA zP f i).x] else []) ++ ((bif decide (cmpRt (getA zP f (i + 1)).y y = 0) then [(getA zP f (i + 1)).x] else []) ++ (bif crP (getA zP f i) (getA zP f (i + 1)) y then [(bkP f y i).1] else []))
@[irreducible] noncomputable def bsRaw (f : List Pt) (y : Rt) (n : Nat) : List Rt := (List.range n).flatMap (bsA f y)
theorem bsRaw_zero (f : List Pt) (y : Rt) : bsRaw f y 0 = [] := by unfold bsRaw; rfl
theorem bsRaw_succ (f : List Pt) (y : Rt) (n : Nat) : bsRaw f y (n + 1) = bsRaw f y n ++ bsA f y n := by unfold bsRaw; rw [List.range_succ, List.flatMap_append]; simp
theorem bsRaw_len (f : List Pt) (y : Rt) : ∀ n, (bsRaw f y n).length ≤ 3 * n
  | 0 => by rw [bsRaw_zero]; simp
  | n + 1 => by
    have h := bsRaw_len f y n
    have h2 : (bsA f y n).length ≤ 3 := by
      unfold bsA
      rw [List.length_append, List.length_append]
      have := @len_bif (decide (cmpRt (getA zP f n).y y = 0)) (getA zP f n).x
      have := @len_bif (decide (cmpRt (getA zP f (n + 1)).y y = 0)) (getA zP f (n + 1)).x
      have := @len_bif (crP (getA zP f n) (getA zP f (n + 1)) y) (bkP f y n).1
      omega
    rw [bsRaw_succ, List.length_append]; omega
theorem bkP_good {f : List Pt} {y : Rt} {i : Nat} (h : (bkP f y i).2 = true) : goodRt (bkP f y i).1 = true := by
  unfold bkP at h ⊢
  rw [← backO_t h]; exact backO_good
theorem biG_at' {f : List Pt} {y : Rt} : ∀ {n : Nat}, biG f y n = true → ∀ i, i < n → biT f y i = true → (backR (getA zP f (prI i)) (slR (getA zP f (prI i)) (getA zP f i)) y).2 = true
  | 0, _, i, h, _ => by omega
  | n + 1, h, i, hi, ht => by
    rw [biG_succ, Bool.and_eq_true] at h
    by_cases e : i = n
    · subst e
      rw [ht] at h
      simpa using h.2
    · exact biG_at' h.1 i (by omega) ht
theorem biG_at {f : List Pt} {y : Rt} {n : Nat} (h : biG f y n = true) (i : Nat) (hi : i + 1 < n) (ht : biT f y (i + 1) = true) : (bkP f y i).2 = true := by
  have := biG_at' h (i + 1) hi ht
  rw [prI_succ] at this
  exact this
theorem biT_succ (f : List Pt) (y : Rt) (i : Nat) : biT f y (i + 1) = crP (getA zP f i) (getA zP f (i + 1)) y := by
  unfold biT
  rw [prI_succ, decide_eq_true (by omega)]; rfl
theorem biT_zero (f : List Pt) (y : Rt) : biT f y 0 = false := by unfold biT; rfl
theorem biX_succ (f : List Pt) (y : Rt) (i : Nat) : biX f y (i + 1) = backO (getA zP f i) (slR (getA zP f i) (getA zP f (i + 1))) y := by unfold biX; rw [prI_succ]
theorem mem_bif {b : Bool} {x z : Rt} : z ∈ (bif b then [x] else []) ↔ b = true ∧ z = x := by cases b <;> simp
/-- the same members -/
theorem raw_mem {f : List Pt} {y : Rt} (hf : mapOk f = true) (hy : goodRt y = true) (hg : biG f y f.length = true) {z : Rt} : z ∈ biRaw f y f.length ↔ z ∈ bsRaw f y (f.length - 1) := by
  have hl := (mapOk_iff.1 hf).1
  have hpt : ∀ i, i < f.length → goodRt (getA zP f i).y = true := fun i hi => coord_good (ptOk_iff.1 (map_pt hf hi)).2
  have eqv : ∀ i, i < f.length → ((eqRt (getA zP f i).y y = true) ↔ decide (cmpRt (getA zP f i).y y = 0) = true) := fun i hi => by
    unfold eqRt
    rw [decide_eq_true_eq, decide_eq_true_eq, cmpRt_zero (hpt i hi) hy]
  unfold biRaw bsRaw
  simp only [List.mem_flatMap, List.mem_range, biA, biB, bsA, List.mem_append, mem_bif]
  constructor
  · rintro ⟨i, hi, ⟨h1, h2⟩ | ⟨h1, h2⟩⟩
    · rw [eqv i hi] at h1
      by_cases h0 : i = 0
      · exact ⟨0, by omega, .inl ⟨by rw [← h0]; exact h1, by rw [← h0]; exact h2⟩⟩
      · refine ⟨i - 1, by omega, .inr (.inl ⟨?_, ?_⟩)⟩
        · rw [show i - 1 + 1 = i by omega]; exact h1
        · rw [show i - 1 + 1 = i by omega]; exact h2
    · obtain ⟨k, rfl⟩ : ∃ k, i = k + 1 := ⟨i - 1, by
        rcases Nat.eq_zero_or_pos i with h0 | h0
        · rw [h0, biT_zero] at h1; cases h1
        · omega⟩
      have hg2 := biG_at hg k hi h1
      rw [biT_succ] at h1
      rw [biX_succ] at h2
      refine ⟨k, by omega, .inr (.inr ⟨h1, ?_⟩)⟩
      rw [h2]
      exact backO_t hg2
  · rintro ⟨i, hi, ⟨h1, h2⟩ | ⟨h1, h2⟩ | ⟨h1, h2⟩⟩
    · exact ⟨i, by omega, .inl ⟨(eqv i (by omega)).2 h1, h2⟩⟩
    · exact ⟨i + 1, by omega, .inl ⟨(eqv (i + 1) (by omega)).2 h1, h2⟩⟩
    · have ht : biT f y (i + 1) = true := by rw [biT_succ]; exact h1
      have hg2 := biG_at hg i (by omega) ht
      refine ⟨i + 1, by omega, .inr ⟨ht, ?_⟩⟩
      rw [biX_succ, h2]
      exact (backO_t hg2).symm
theorem bsA_gd {f : List Pt} {y : Rt} (hf : mapOk f = true) {i : Nat} (h : i + 1 < f.length) (hb : crP (getA zP f i) (getA zP f (i + 1)) y = true → (bkP f y i).2 = true) : Gd (bsA f y i) := by
  have hx : ∀ j, j < f.length → goodRt (getA zP f j).x = true := fun j hj => coord_good (ptOk_iff.1 (map_pt hf hj)).1
  refine Gd.app (Gd.bif (Gd.one (hx i (by omega)))) (Gd.app (Gd.bif (Gd.one (hx (i + 1) h))) ?_)
  cases hc : crP (getA zP f i) (getA zP f (i + 1)) y
  · exact Gd.nil
  · exact Gd.one (bkP_good (hb hc))
theorem bsRaw_gd {f : List Pt} {y : Rt} (hf : mapOk f = true) : ∀ {n : Nat}, n + 1 ≤ f.length → biG f y (n + 1) = true → Gd (bsRaw f y n)
  | 0, _, _ => by rw [bsRaw_zero]; exact Gd.nil
  | n + 1, h, hg => by
    rw [bsRaw_succ]
    refine (bsRaw_gd hf (by omega) ?_).app (bsA_gd hf (by omega) fun hc => ?_)
    · rw [biG_succ, Bool.and_eq_true] at hg; exact hg.1
    · exact biG_at hg n (by omega) (by rw [biT_succ]; exact hc)
theorem bf_eq {f : List Pt} {y : Rt} (hf : mapOk f = true) (hy : goodRt y = true) (hg : bfG f y = true) : putsL [] (bsRaw f y (f.length - 1)) = bfO f y := by
  unfold bfG at hg
  have hl := (mapOk_iff.1 hf).1
  unfold bfO
  have g1 : Gd (bsRaw f y (f.length - 1)) := bsRaw_gd hf (by omega) (by rw [show f.length - 1 + 1 = f.length by omega]; exact hg)
  have g2 := biRaw_gd (y := y) hf (Nat.le_refl _)
  refine SS.uniq (putsL_ss Gd.nil g1 SS.nil) (putsL_ss Gd.nil g2 SS.nil) fun x => ?_
  rw [putsL_mem, putsL_mem, raw_mem hf hy hg]
/-- the reference's result -/
noncomputable def bfR (f : List Pt) (y : Rt) : List Rt × Bool := match bfG f y with
  | true => (bfO f y, true)
  | false => ([], false)
theorem bfR_t {f : List Pt} {y : Rt} (h : bfG f y = true) : bfR f y = (bfO f y, true) := by unfold bfR; rw [h]
theorem bfR_f {f : List Pt} {y : Rt} (h : bfG f y = false) : bfR f y = ([], false) := by unfold bfR; rw [h]
theorem bfR_2 {f : List Pt} {y : Rt} : (bfR f y).2 = bfG f y := by cases h : bfG f y; rw [bfR_f h]; rw [bfR_t h]
theorem bfR_1 {f : List Pt} {y : Rt} (h : (bfR f y).2 = true) : (bfR f y).1 = bfO f y := by rw [bfR_2] at h; rw [bfR_t h]
theorem biG_mono {f : List Pt} {y : Rt} : ∀ {n m : Nat}, n ≤ m → biG f y m = true → biG f y n = true
  | n, 0, h, hg => by rw [show n = 0 by omega]; exact hg
  | n, m + 1, h, hg => by
    by_cases e : n = m + 1
    · rw [e]; exact hg
    · rw [biG_succ, Bool.and_eq_true] at hg
      exact biG_mono (by omega) hg.1
/-- a piece without a value: the whole is bad -/
theorem bfG_f {f : List Pt} {y : Rt} {i : Nat} (h : i + 1 < f.length) (hc : crP (getA zP f i) (getA zP f (i + 1)) y = true) (hb : (bkP f y i).2 = false) : bfG f y = false := by
  unfold bfG
  cases hg : biG f y f.length
  · rfl
  · have := biG_at hg i h (by rw [biT_succ]; exact hc)
    rw [hb] at this; cases this
/-- one round of the program's loop -/
theorem bi_tt {f : List Pt} {y : Rt} {i : Nat} (h1 : eqRt (getA zP f i).y y = true) (h2 : biT f y i = true) : biRaw f y i ++ [(getA zP f i).x] ++ [biX f y i] = biRaw f y (i + 1) := by
  rw [biRaw_succ, biA, biB, h1, h2, List.append_assoc]; rfl
theorem bi_tf {f : List Pt} {y : Rt} {i : Nat} (h1 : eqRt (getA zP f i).y y = true) (h2 : biT f y i = false) : biRaw f y i ++ [(getA zP f i).x] = biRaw f y (i + 1) := by
  rw [biRaw_succ, biA, biB, h1, h2]; rfl
theorem bi_ft {f : List Pt} {y : Rt} {i : Nat} (h1 : eqRt (getA zP f i).y y = false) (h2 : biT f y i = true) : biRaw f y i ++ [biX f y i] = biRaw f y (i + 1) := by
  rw [biRaw_succ, biA, biB, h1, h2]; rfl
theorem bi_ff {f : List Pt} {y : Rt} {i : Nat} (h1 : eqRt (getA zP f i).y y = false) (h2 : biT f y i = false) : biRaw f y i = biRaw f y (i + 1) := by
  rw [biRaw_succ, biA, biB, h1, h2]; simp
theorem bg_t {f : List Pt} {y : Rt} {i : Nat} (c : Bool) (h2 : biT f y i = true) : ((c || !biG f y i) || !(backR (getA zP f (prI i)) (slR (getA zP f (prI i)) (getA zP f i)) y).2) = (c || !biG f y (i + 1)) := by
  rw [biG_succ, h2]
  generalize (backR (getA zP f (prI i)) (slR (getA zP f (prI i)) (getA zP f i)) y).2 = b
  generalize biG f y i = g
  cases c <;> cases g <;> cases b <;> rfl
theorem bg_f {f : List Pt} {y : Rt} {i : Nat} (c : Bool) (h2 : biT f y i = false) : (c || !biG f y i) = (c || !biG f y (i + 1)) := by
  rw [biG_succ, h2]
  generalize biG f y i = g
  cases c <;> cases g <;> rfl
def putB (b : Bool) (l : List Rt) (x : Rt) : List Rt := match b with
  | true => putL l x
  | false => l
theorem putsL_bif (b : Bool) (l : List Rt) (x : Rt) : putsL l (bif b then [x] else []) = putB b l x := by
  cases b
  · exact putsL_nil l
  · show putsL l [x] = putL l x
    rw [putsL_cons, putsL_nil]
theorem bs_step (f : List Pt) (y : Rt) (i : Nat) : putsL [] (bsRaw f y (i + 1)) = putB (crP (getA zP f i) (getA zP f (i + 1)) y) (putB (decide (cmpRt (getA zP f (i + 1)).y y = 0)) (putB (decide (cmpRt (getA zP f i).y y = 0)) (putsL [] (bsRaw f y i)) (getA zP f i).x) (getA zP f (i + 1)).x) (bkP f y i).1 := by
  rw [bsRaw_succ, putsL_append, bsA, putsL_append, putsL_append, putsL_bif, putsL_bif, putsL_bif]
theorem putB_gd {b : Bool} {l : List Rt} {x : Rt} (h : Gd l) (hx : goodRt x = true) : Gd (putB b l x) := by
  cases b
  · exact h
  · exact putL_good h hx
theorem putB_len (b : Bool) (l : List Rt) (x : Rt) : (putB b l x).length ≤ l.length + 1 := by
  cases b
  · show l.length ≤ _; omega
  · exact putL_len x l
theorem crP_f {p q : Pt} {y : Rt} (h : 0 ≤ cmpRt p.y y * cmpRt q.y y) : crP p q y = false := decide_eq_false (Int.not_lt.2 h)
theorem crP_t {p q : Pt} {y : Rt} (h : ¬ 0 ≤ cmpRt p.y y * cmpRt q.y y) : crP p q y = true := decide_eq_true (Int.not_le.1 h)
theorem bs_inv_f {f : List Pt} {y : Rt} {i : Nat} (h : biG f y (i + 1) = true) (hc : crP (getA zP f i) (getA zP f (i + 1)) y = false) : biG f y (i + 1 + 1) = true := by
  rw [biG_succ, h, biT_succ, hc]; rfl
theorem bs_inv_t {f : List Pt} {y : Rt} {i : Nat} (h : biG f y (i + 1) = true) (hc : (bkP f y i).2 = true) : biG f y (i + 1 + 1) = true := by
  rw [biG_succ, h, prI_succ]
  unfold bkP at hc
  rw [hc]; simp
theorem cmp_1 (a b : Rt) : cmpRt a b = -1 ∨ cmpRt a b = 0 ∨ cmpRt a b = 1 := by
  unfold cmpRt sgn
  split
  · exact .inl rfl
  · split
    · exact .inr (.inr rfl)
    · exact .inr (.inl rfl)
theorem cmp_bd (a b c d : Rt) : -1 ≤ cmpRt a b * cmpRt c d ∧ cmpRt a b * cmpRt c d ≤ 1 := by
  rcases cmp_1 a b with h | h | h <;> rcases cmp_1 c d with h2 | h2 | h2 <;> rw [h, h2] <;> decide
theorem cmp_lo (a b c d : Rt) : -9223372036854775808 ≤ cmpRt a b * cmpRt c d := by have := cmp_bd a b c d; omega
theorem cmp_hi (a b c d : Rt) : cmpRt a b * cmpRt c d ≤ 9223372036854775807 := by have := cmp_bd a b c d; omega

/-! ### bends and test points -/
@[irreducible] noncomputable def bdRaw (f h : List Pt) (n : Nat) : List Rt := (f.map Pt.x ++ h.map Pt.x) ++ (List.range n).flatMap fun i => bfO f (getA zP h i).x
theorem bdRaw_zero (f h : List Pt) : bdRaw f h 0 = f.map Pt.x ++ h.map Pt.x := by unfold bdRaw; simp
theorem bdRaw_succ (f h : List Pt) (n : Nat) : bdRaw f h (n + 1) = bdRaw f h n ++ bfO f (getA zP h n).x := by unfold bdRaw; rw [List.range_succ, List.flatMap_append, List.append_assoc, List.append_assoc]; simp
@[irreducible] noncomputable def bdG_ (f h : List Pt) (n : Nat) : Bool := (List.range n).all fun i => bfG f (getA zP h i).x
theorem bdG_zero (f h : List Pt) : bdG_ f h 0 = true := by unfold bdG_; rfl
theorem bdG_succ (f h : List Pt) (n : Nat) : bdG_ f h (n + 1) = (bdG_ f h n && bfG f (getA zP h n).x) := by unfold bdG_; rw [List.range_succ, List.all_append]; simp
theorem bdRaw_len {f h : List Pt} (hf : f.length ≤ 12) (hh : h.length ≤ 12) : ∀ n, (bdRaw f h n).length ≤ 24 + 24 * n
  | 0 => by rw [bdRaw_zero, List.length_append, List.length_map, List.length_map]; omega
  | n + 1 => by
    have := bdRaw_len hf hh n
    have := @bfO_len f (getA zP h n).x hf
    rw [bdRaw_succ, List.length_append]; omega
theorem xs_gd {f : List Pt} (hf : mapOk f = true) : Gd (f.map Pt.x) := fun x hx => by
  obtain ⟨p, hp, rfl⟩ := List.mem_map.1 hx
  exact coord_good (ptOk_iff.1 ((mapOk_iff.1 hf).2.1 p hp)).1
theorem bdRaw_gd {f h : List Pt} (hf : mapOk f = true) (hh : mapOk h = true) : ∀ n, Gd (bdRaw f h n)
  | 0 => by rw [bdRaw_zero]; exact (xs_gd hf).app (xs_gd hh)
  | n + 1 => by rw [bdRaw_succ]; exact (bdRaw_gd hf hh n).app (bfO_gd hf)
@[irreducible] noncomputable def bdO (f h : List Pt) : List Rt := putsL [] (bdRaw f h h.length)
@[irreducible] noncomputable def bdG (f h : List Pt) : Bool := bdG_ f h h.length
theorem bdO_len {f h : List Pt} (hf : mapOk f = true) (hh : mapOk h = true) : (bdO f h).length ≤ 312 := by
  unfold bdO
  have l1 := (mapOk_iff.1 hf).1
  have l2 := (mapOk_iff.1 hh).1
  have h1 := putsL_len (bdRaw f h h.length) []
  have h2 := bdRaw_len l1.2 l2.2 h.length
  simp only [List.length_nil] at h1
  omega
theorem bdO_gd {f h : List Pt} (hf : mapOk f = true) (hh : mapOk h = true) : Gd (bdO f h) := by unfold bdO; exact putsL_good Gd.nil (bdRaw_gd hf hh _)
theorem bdO_ss {f h : List Pt} (hf : mapOk f = true) (hh : mapOk h = true) : SS (bdO f h) := by unfold bdO; exact putsL_ss Gd.nil (bdRaw_gd hf hh _) SS.nil
theorem bg_step (c : Bool) {f h : List Pt} {i : Nat} : ((c || !bdG_ f h i) || !bfG f (getA zP h i).x) = (c || !bdG_ f h (i + 1)) := by
  rw [bdG_succ]
  generalize bdG_ f h i = g
  generalize bfG f (getA zP h i).x = b
  cases c <;> cases g <;> cases b <;> rfl
/-- in the order of the reference -/
@[irreducible] noncomputable def bkRaw (f h : List Pt) (n : Nat) : List Rt := f.map Pt.x ++ (List.range n).flatMap fun i => [(getA zP h i).x] ++ bfO f (getA zP h i).x
theorem bkRaw_zero (f h : List Pt) : bkRaw f h 0 = f.map Pt.x := by unfold bkRaw; simp
theorem bkRaw_succ (f h : List Pt) (n : Nat) : bkRaw f h (n + 1) = (bkRaw f h n ++ [(getA zP h n).x]) ++ bfO f (getA zP h n).x := by unfold bkRaw; rw [List.range_succ, List.flatMap_append]; simp
theorem bkRaw_len {f h : List Pt} (hf : f.length ≤ 12) : ∀ n, (bkRaw f h n).length ≤ 12 + 25 * n
  | 0 => by rw [bkRaw_zero, List.length_map]; omega
  | n + 1 => by
    have := bkRaw_len (h := h) hf n
    have := @bfO_len f (getA zP h n).x hf
    rw [bkRaw_succ, List.length_append, List.length_append]; simp only [List.length_cons, List.length_nil]; omega
theorem pt_gd {h : List Pt} (hh : mapOk h = true) {i : Nat} (hi : i < h.length) : goodRt (getA zP h i).x = true := coord_good (ptOk_iff.1 (map_pt hh hi)).1
theorem bkRaw_gd {f h : List Pt} (hf : mapOk f = true) (hh : mapOk h = true) : ∀ n, n ≤ h.length → Gd (bkRaw f h n)
  | 0, _ => by rw [bkRaw_zero]; exact xs_gd hf
  | n + 1, hn => by rw [bkRaw_succ]; exact ((bkRaw_gd hf hh n (by omega)).app (Gd.one (pt_gd hh (by omega)))).app (bfO_gd hf)
theorem bk_eq {f h : List Pt} (hf : mapOk f = true) (hh : mapOk h = true) : putsL [] (bkRaw f h h.length) = bdO f h := by
  refine SS.uniq (putsL_ss Gd.nil (bkRaw_gd hf hh _ (Nat.le_refl _)) SS.nil) (bdO_ss hf hh) fun x => ?_
  unfold bdO
  rw [putsL_mem, putsL_mem]
  unfold bkRaw bdRaw
  simp only [List.mem_append, List.mem_flatMap, List.mem_range, List.mem_singleton, List.mem_map]
  constructor
  · rintro (h1 | h1 | ⟨i, hi, h1 | h1⟩)
    · cases h1
    · exact .inr (.inl (.inl h1))
    · exact .inr (.inl (.inr ⟨_, getA_mem _ hi, h1.symm⟩))
    · exact .inr (.inr ⟨i, hi, h1⟩)
  · rintro (h1 | (h1 | ⟨p, hp, h1⟩) | ⟨i, hi, h1⟩)
    · cases h1
    · exact .inr (.inl h1)
    · obtain ⟨i, hi, rfl⟩ := List.getElem_of_mem hp
      exact .inr (.inr ⟨i, hi, .inl (by rw [← h1, getA_eq]; simp [List.getD, hi])⟩)
    · exact .inr (.inr ⟨i, hi, .inr h1⟩)
noncomputable def bdR (f h : List Pt) : List Rt × Bool := match bdG f h with
  | true => (bdO f h, true)
  | false => ([], false)
theorem bdR_t {f h : List Pt} (hg : bdG f h = true) : bdR f h = (bdO f h, true) := by unfold bdR; rw [hg]
theorem bdR_f {f h : List Pt} (hg : bdG f h = false) : bdR f h = ([], false) := by unfold bdR; rw [hg]
theorem bdR_2 {f h : List Pt} : (bdR f h).2 = bdG f h := by cases hg : bdG f h; rw [bdR_f hg]; rw [bdR_t hg]
theorem bdR_1 {f h : List Pt} (hg : (bdR f h).2 = true) : (bdR f h).1 = bdO f h := by rw [bdR_2] at hg; rw [bdR_t hg]
theorem bdG__at {f h : List Pt} : ∀ {n : Nat}, bdG_ f h n = true → ∀ i, i < n → bfG f (getA zP h i).x = true
  | 0, _, i, hi => by omega
  | n + 1, hg, i, hi => by
    rw [bdG_succ, Bool.and_eq_true] at hg
    by_cases e : i = n
    · rw [e]; exact hg.2
    · exact bdG__at hg.1 i (by omega)
theorem bdG_f {f h : List Pt} {i : Nat} (hi : i < h.length) (hb : (bfR f (getA zP h i).x).2 = false) : bdG f h = false := by
  rw [bfR_2] at hb
  unfold bdG
  cases hg : bdG_ f h h.length
  · rfl
  · rw [bdG__at hg i hi] at hb; cases hb
theorem bdG_next {f h : List Pt} {i : Nat} (hg : bdG_ f h i = true) (hb : (bfR f (getA zP h i).x).2 = true) : bdG_ f h (i + 1) = true := by
  rw [bfR_2] at hb
  rw [bdG_succ, hg, hb]; rfl

/-- already in order -/
theorem putsL_id {l : List Rt} (hg : Gd l) (hs : SS l) : putsL [] l = l := SS.uniq (putsL_ss Gd.nil hg SS.nil) hs fun x => by rw [putsL_mem]; simp
@[irreducible] noncomputable def tpL (g h : List Pt) (n : Nat) : List Rt := (List.range n).map fun i => chO h (getA zP g i).x
theorem tpL_zero (g h : List Pt) : tpL g h 0 = [] := by unfold tpL; rfl
theorem tpL_succ (g h : List Pt) (n : Nat) : tpL g h (n + 1) = tpL g h n ++ [chO h (getA zP g n).x] := by unfold tpL; rw [List.range_succ, List.map_append]; rfl
theorem tpL_len (g h : List Pt) (n : Nat) : (tpL g h n).length = n := by unfold tpL; simp
theorem chO_good {h : List Pt} {y : Rt} : goodRt (chO h y) = true := by unfold chO; exact backO_good
theorem tpL_gd (g h : List Pt) (n : Nat) : Gd (tpL g h n) := fun x hx => by
  unfold tpL at hx
  obtain ⟨i, _, rfl⟩ := List.mem_map.1 hx
  exact chO_good
@[irreducible] noncomputable def tpG_ (f g h : List Pt) (n : Nat) : Bool := bdG f h && (List.range n).all fun i => (chB h (getA zP g i).x).2
theorem tpG_zero (f g h : List Pt) : tpG_ f g h 0 = bdG f h := by unfold tpG_; simp
theorem tpG_succ (f g h : List Pt) (n : Nat) : tpG_ f g h (n + 1) = (tpG_ f g h n && (chB h (getA zP g n).x).2) := by unfold tpG_; rw [List.range_succ, List.all_append]; simp [Bool.and_assoc]
@[irreducible] noncomputable def tpO (f g h : List Pt) : List Rt := putsL [] (bdO f h ++ tpL g h g.length)
@[irreducible] noncomputable def tpG (f g h : List Pt) : Bool := tpG_ f g h g.length
theorem tg_step (c : Bool) {f g h : List Pt} {i : Nat} : ((c || !tpG_ f g h i) || !(chB h (getA zP g i).x).2) = (c || !tpG_ f g h (i + 1)) := by
  rw [tpG_succ]
  generalize tpG_ f g h i = a
  generalize (chB h (getA zP g i).x).2 = b
  cases c <;> cases a <;> cases b <;> rfl
theorem tp_eq {f g h : List Pt} (hf : mapOk f = true) (hh : mapOk h = true) : putsL (bdO f h) (tpL g h g.length) = tpO f g h := by
  unfold tpO
  rw [putsL_append, putsL_id (bdO_gd hf hh) (bdO_ss hf hh)]
theorem tpL_one {f g h : List Pt} {i : Nat} (hb : (chB h (getA zP g i).x).2 = true) : putL (putsL (bdO f h) (tpL g h i)) (chB h (getA zP g i).x).1 = putsL (bdO f h) (tpL g h (i + 1)) := by
  rw [tpL_succ, putsL_append, putsL_cons, putsL_nil, chO_t hb]
theorem tpO_len {f g h : List Pt} (hf : mapOk f = true) (hg : mapOk g = true) (hh : mapOk h = true) : (tpO f g h).length ≤ 324 := by
  unfold tpO
  have l1 := bdO_len hf hh
  have l2 := (mapOk_iff.1 hg).1
  have h1 := putsL_len (bdO f h ++ tpL g h g.length) []
  rw [List.length_append, tpL_len] at h1
  simp only [List.length_nil] at h1
  omega
noncomputable def tpR (f g h : List Pt) : List Rt × Bool := match tpG f g h with
  | true => (tpO f g h, true)
  | false => ([], false)
theorem tpR_t {f g h : List Pt} (hg : tpG f g h = true) : tpR f g h = (tpO f g h, true) := by unfold tpR; rw [hg]
theorem tpR_f {f g h : List Pt} (hg : tpG f g h = false) : tpR f g h = ([], false) := by unfold tpR; rw [hg]
theorem tpR_2 {f g h : List Pt} : (tpR f g h).2 = tpG f g h := by cases hg : tpG f g h; rw [tpR_f hg]; rw [tpR_t hg]
theorem tpG__at {f g h : List Pt} : ∀ {n : Nat}, tpG_ f g h n = true → bdG f h = true ∧ ∀ i, i < n → (chB h (getA zP g i).x).2 = true
  | 0, hg => by rw [tpG_zero] at hg; exact ⟨hg, fun i hi => by omega⟩
  | n + 1, hg => by
    rw [tpG_succ, Bool.and_eq_true] at hg
    obtain ⟨a, b⟩ := tpG__at hg.1
    refine ⟨a, fun i hi => ?_⟩
    by_cases e : i = n
    · rw [e]; exact hg.2
    · exact b i (by omega)
theorem tpG_f0 {f g h : List Pt} (hb : (bdR f h).2 = false) : tpG f g h = false := by
  rw [bdR_2] at hb
  unfold tpG
  cases hg : tpG_ f g h g.length
  · rfl
  · rw [(tpG__at hg).1] at hb; cases hb
theorem tpG_f {f g h : List Pt} {i : Nat} (hi : i < g.length) (hb : (chB h (getA zP g i).x).2 = false) : tpG f g h = false := by
  unfold tpG
  cases hg : tpG_ f g h g.length
  · rfl
  · rw [(tpG__at hg).2 i hi] at hb; cases hb
noncomputable def tpsOk (f g h : List Pt) : Bool := mapOk f && (mapOk g && chOk h)
theorem tpsOk_iff {f g h : List Pt} : tpsOk f g h = true ↔ (mapOk f = true ∧ mapOk g = true ∧ chOk h = true) := by unfold tpsOk; rw [Bool.and_eq_true, Bool.and_eq_true]
noncomputable def tpsR (f g h : List Pt) : List Rt × Bool := match tpsOk f g h with
  | true => tpR f g h
  | false => ([], false)
theorem tpsR_t {f g h : List Pt} (h1 : mapOk f = true) (h2 : mapOk g = true) (h3 : chOk h = true) : tpsR f g h = tpR f g h := by unfold tpsR tpsOk; rw [h1, h2, h3]; rfl
theorem tpsR_f1 {f g h : List Pt} (h1 : mapOk f = false) : tpsR f g h = ([], false) := by unfold tpsR tpsOk; rw [h1]; rfl
theorem tpsR_f2 {f g h : List Pt} (h1 : mapOk g = false) : tpsR f g h = ([], false) := by unfold tpsR tpsOk; rw [h1]; cases mapOk f <;> rfl
theorem tpsR_f3 {f g h : List Pt} (h1 : chOk h = false) : tpsR f g h = ([], false) := by unfold tpsR tpsOk; rw [h1]; cases mapOk f <;> cases mapOk g <;> rfl
theorem tpsR_len (f g h : List Pt) : (tpsR f g h).1.length ≤ 324 := by
  cases h1 : mapOk f
  · rw [tpsR_f1 h1]; simp
  · cases h2 : mapOk g
    · rw [tpsR_f2 h2]; simp
    · cases h3 : chOk h
      · rw [tpsR_f3 h3]; simp
      · rw [tpsR_t h1 h2 h3]
        cases hg : tpG f g h
        · rw [tpR_f hg]; simp
        · rw [tpR_t hg]; exact tpO_len h1 h2 (chOk_iff.1 h3).1
end Go.Vx
namespace Go.Vx
open Go
set_option maxRecDepth 100000
set_option linter.unusedSimpArgs false
set_option linter.unusedVariables false

theorem q_negR {r : Rt} (h : goodRt r = true) : r.num < 0 ↔ qR r < 0 := by
  have h1 := q_lt h good_zero
  rw [q_zero] at h1
  dsimp only at h1
  rw [← h1]; omega
theorem sl_neg {p q : Pt} (hp : ptOk p = true) (hq : ptOk q = true) (h : ltR p.x q.x) (hr : ltR q.y p.y) : qR (slR p q) < 0 := by
  obtain ⟨s1, s2, s3⟩ := slR_ok hp hq h
  rw [ptOk_iff] at hp hq
  have gx := coord_good hp.1
  have gy := coord_good hp.2
  have gX := coord_good hq.1
  have gY := coord_good hq.2
  have l1 := (q_lt gx gX).1 h
  have l2 := (q_lt gY gy).1 hr
  by_cases h3 : qR (slR p q) < 0
  · exact h3
  · by_cases h4 : qR (slR p q) = 0
    · rw [h4] at s3; grind
    · have := Rat.mul_pos (show 0 < qR (slR p q) by grind) (show 0 < qR q.x - qR p.x by grind); grind
/-- where a falling piece has a value between its ends lies between them -/
theorem back_unit_f {p q : Pt} {y : Rt} (hp : ptOk p = true) (hq : ptOk q = true) (h : ltR p.x q.x) (hr : ltR q.y p.y) (hy : goodRt y = true) (h1 : ¬ ltR p.y y) (h2 : ¬ ltR y q.y) (ho : (backR p (slR p q) y).2 = true) : unitRt (backR p (slR p q) y).1 = true := by
  obtain ⟨s1, s2, s3⟩ := slR_ok hp hq h
  have s5 := sl_neg hp hq h hr
  have s4 := (q_negR s2).2 s5
  rw [ptOk_iff] at hp hq
  have gx := coord_good hp.1
  have gy := coord_good hp.2
  have gX := coord_good hq.1
  have gY := coord_good hq.2
  cases e1 : (subRt y p.y).2 with
  | false => rw [backR_1 e1] at ho; cases ho
  | true =>
    cases e2 : (divRt (subRt y p.y).1 (slR p q)).2 with
    | false => rw [backR_2 e1 e2] at ho; cases ho
    | true =>
      rw [backR_3 e1 e2] at ho ⊢
      have g1 : goodRt (subRt y p.y).1 = true := lowRt_good1 e1
      have g2 : goodRt (divRt (subRt y p.y).1 (slR p q)).1 = true := lowRt_good1 e2
      have g3 : goodRt (addRt p.x (divRt (subRt y p.y).1 (slR p q)).1).1 = true := lowRt_good1 ho
      have d := q_div g1 s2 (by omega) e2
      rw [q_sub hy gy e1] at d
      rw [q_unit g3, q_add gx g2 ho]
      have l1 := (q_lt gx gX).1 h
      have l2 : qR y ≤ qR p.y := Rat.not_lt.1 fun hh => h1 ((q_lt gy hy).2 hh)
      have l3 : qR q.y ≤ qR y := Rat.not_lt.1 fun hh => h2 ((q_lt hy gY).2 hh)
      have u1 := (q_unit gx).1 (coord_unit hp.1)
      have u2 := (q_unit gX).1 (coord_unit hq.1)
      have n1 : 0 ≤ qR (divRt (subRt y p.y).1 (slR p q)).1 := by
        by_cases h6 : qR (divRt (subRt y p.y).1 (slR p q)).1 < 0
        · have := Rat.mul_pos (show 0 < -qR (divRt (subRt y p.y).1 (slR p q)).1 by grind) (show 0 < -qR (slR p q) by grind); grind
        · grind
      have n2 : qR (divRt (subRt y p.y).1 (slR p q)).1 ≤ qR q.x - qR p.x := by
        by_cases h6 : qR q.x - qR p.x < qR (divRt (subRt y p.y).1 (slR p q)).1
        · have := Rat.mul_pos (show 0 < qR (divRt (subRt y p.y).1 (slR p q)).1 - (qR q.x - qR p.x) by grind) (show 0 < -qR (slR p q) by grind); grind
        · grind
      constructor <;> grind
theorem cmp_pos' {a b : Rt} (h : 0 < cmpRt a b) : ltR b a := by
  unfold cmpRt sgn at h
  show b.num * a.den < a.num * b.den
  split at h
  · omega
  · split at h
    · omega
    · omega
theorem cmp_neg' {a b : Rt} (h : cmpRt a b < 0) : ltR a b := cmpRt_neg.1 h
theorem nlt_of {a b : Rt} (h : ltR a b) : ¬ ltR b a := fun h2 => by
  have h : a.num * b.den < b.num * a.den := h
  have h2 : b.num * a.den < a.num * b.den := h2
  omega
theorem lt_trans' {a b c : Rt} (ha : goodRt a = true) (hb : goodRt b = true) (hc : goodRt c = true) (h1 : ltR a b) (h2 : ltR b c) : ltR a c := by
  have h3 := (q_lt ha hb).1 h1
  have h4 := (q_lt hb hc).1 h2
  exact (q_lt ha hc).2 (by grind)
theorem cross_unit {p q : Pt} {y : Rt} (hp : ptOk p = true) (hq : ptOk q = true) (h : ltR p.x q.x) (hy : goodRt y = true) (hc : crP p q y = true) (ho : (backR p (slR p q) y).2 = true) : unitRt (backR p (slR p q) y).1 = true := by
  have hc : cmpRt p.y y * cmpRt q.y y < 0 := of_decide_eq_true hc
  have gy := coord_good (ptOk_iff.1 hp).2
  have gY := coord_good (ptOk_iff.1 hq).2
  rcases cmp_1 p.y y with h1 | h1 | h1 <;> rcases cmp_1 q.y y with h2 | h2 | h2 <;> rw [h1, h2] at hc
  all_goals first | (exfalso; revert hc; decide) | skip
  · have a1 : ltR p.y y := cmp_neg' (by omega)
    have a2 : ltR y q.y := cmp_pos' (by omega)
    exact back_unit hp hq h (lt_trans' gy hy gY a1 a2) hy (nlt_of a1) (nlt_of a2) ho
  · have a1 : ltR y p.y := cmp_pos' (by omega)
    have a2 : ltR q.y y := cmp_neg' (by omega)
    exact back_unit_f hp hq h (lt_trans' gY hy gy a2 a1) hy (nlt_of a1) (nlt_of a2) ho

theorem bf_unit {f : List Pt} {y x : Rt} (hf : mapOk f = true) (hy : goodRt y = true) (hg : bfG f y = true) (hx : x ∈ bfO f y) : unitRt x = true := by
  unfold bfG at hg
  unfold bfO biRaw at hx
  obtain ⟨m1, m2, m3, m4, m5⟩ := mapOk_iff.1 hf
  rcases putsL_mem.1 hx with h | h
  · cases h
  · simp only [List.mem_flatMap, List.mem_range, biA, biB, List.mem_append, mem_bif] at h
    obtain ⟨i, hi, ⟨_, h2⟩ | ⟨h1, h2⟩⟩ := h
    · rw [h2]; exact coord_unit (ptOk_iff.1 (map_pt hf hi)).1
    · obtain ⟨k, rfl⟩ : ∃ k, i = k + 1 := ⟨i - 1, by
        rcases Nat.eq_zero_or_pos i with h0 | h0
        · rw [h0, biT_zero] at h1; cases h1
        · omega⟩
      have hg2 := biG_at hg k hi h1
      rw [biT_succ] at h1
      rw [biX_succ] at h2
      rw [h2, backO_t hg2]
      exact cross_unit (map_pt hf (by omega)) (map_pt hf hi) (m5 k hi) hy h1 hg2
theorem mapx_unit {f : List Pt} (hf : mapOk f = true) {x : Rt} (hx : x ∈ f.map Pt.x) : unitRt x = true := by
  obtain ⟨p, hp, rfl⟩ := List.mem_map.1 hx
  exact coord_unit (ptOk_iff.1 ((mapOk_iff.1 hf).2.1 p hp)).1
theorem bd_unit {f h : List Pt} {x : Rt} (hf : mapOk f = true) (hh : mapOk h = true) (hg : bdG f h = true) (hx : x ∈ bdO f h) : unitRt x = true := by
  unfold bdG at hg
  unfold bdO bdRaw at hx
  rcases putsL_mem.1 hx with h1 | h1
  · cases h1
  · rcases List.mem_append.1 h1 with h1 | h1
    · rcases List.mem_append.1 h1 with h1 | h1
      · exact mapx_unit hf h1
      · exact mapx_unit hh h1
    · simp only [List.mem_flatMap, List.mem_range] at h1
      obtain ⟨i, hi, h2⟩ := h1
      exact bf_unit hf (pt_gd hh hi) (bdG__at hg i hi) h2
theorem tp_unit {f g h : List Pt} {x : Rt} (hf : mapOk f = true) (hgm : mapOk g = true) (hc : chOk h = true) (hg : tpG f g h = true) (hx : x ∈ tpO f g h) : unitRt x = true := by
  have hh := (chOk_iff.1 hc).1
  unfold tpG at hg
  obtain ⟨g1, g2⟩ := tpG__at hg
  unfold tpO tpL at hx
  rcases putsL_mem.1 hx with h1 | h1
  · cases h1
  · rcases List.mem_append.1 h1 with h1 | h1
    · exact bd_unit hf hh g1 h1
    · obtain ⟨i, hi, rfl⟩ := List.mem_map.1 h1
      have hi := List.mem_range.1 hi
      rw [chO_t (g2 i hi)]
      exact chB_unit hc (coord_unit (ptOk_iff.1 (map_pt hgm hi)).1) (g2 i hi)

/-! ### a conjugacy -/
/-- a value of a value -/
@[irreducible] noncomputable def twR (f h : List Pt) (x : Rt) : Rt × Bool := match (vR f x).2 with
  | true => vR h (vR f x).1
  | false => (⟨0, 0⟩, false)
@[irreducible] noncomputable def twO (f h : List Pt) (x : Rt) : Rt := vO h (vO f x)
theorem twR_f {f h : List Pt} {x : Rt} (h1 : (vR f x).2 = false) : twR f h x = (⟨0, 0⟩, false) := by unfold twR; rw [h1]
theorem twR_t {f h : List Pt} {x : Rt} (h1 : (vR f x).2 = true) : twR f h x = vR h (vR f x).1 := by unfold twR; rw [h1]
theorem twR_g {f h : List Pt} {x : Rt} : (twR f h x).2 = ((vR f x).2 && (vR h (vO f x)).2) := by
  cases h1 : (vR f x).2 with
  | false => rw [twR_f h1]; rfl
  | true => rw [twR_t h1, ← vO_t h1]; rfl
theorem twO_t {f h : List Pt} {x : Rt} (h1 : (twR f h x).2 = true) : twO f h x = (twR f h x).1 := by
  have h2 := h1
  rw [twR_g, Bool.and_eq_true] at h2
  unfold twO
  rw [twR_t h2.1, ← vO_t h2.1, vO_t h2.2]
@[irreducible] noncomputable def icG (f g h : List Pt) (l : List Rt) (n : Nat) : Bool := (List.range n).all fun i => (twR f h (getA zR l i)).2 && (twR h g (getA zR l i)).2
theorem icG_zero (f g h : List Pt) (l : List Rt) : icG f g h l 0 = true := by unfold icG; rfl
theorem icG_succ (f g h : List Pt) (l : List Rt) (n : Nat) : icG f g h l (n + 1) = (icG f g h l n && ((twR f h (getA zR l n)).2 && (twR h g (getA zR l n)).2)) := by unfold icG; rw [List.range_succ, List.all_append]; simp
@[irreducible] noncomputable def icL (f g h : List Pt) (l : List Rt) (n : Nat) : Bool := (List.range n).all fun i => eqRt (twO f h (getA zR l i)) (twO h g (getA zR l i))
theorem icL_zero (f g h : List Pt) (l : List Rt) : icL f g h l 0 = true := by unfold icL; rfl
theorem icL_succ (f g h : List Pt) (l : List Rt) (n : Nat) : icL f g h l (n + 1) = (icL f g h l n && eqRt (twO f h (getA zR l n)) (twO h g (getA zR l n))) := by unfold icL; rw [List.range_succ, List.all_append]; simp
theorem icG_at {f g h : List Pt} {l : List Rt} : ∀ {n : Nat}, icG f g h l n = true → ∀ i, i < n → (twR f h (getA zR l i)).2 = true ∧ (twR h g (getA zR l i)).2 = true
  | 0, _, i, hi => by omega
  | n + 1, hg, i, hi => by
    rw [icG_succ, Bool.and_eq_true, Bool.and_eq_true] at hg
    by_cases e : i = n
    · rw [e]; exact hg.2
    · exact icG_at hg.1 i (by omega)
theorem icG_f {f g h : List Pt} {l : List Rt} {i n : Nat} (hi : i < n) (hb : (twR f h (getA zR l i)).2 = false ∨ (twR h g (getA zR l i)).2 = false) : icG f g h l n = false := by
  cases hg : icG f g h l n
  · rfl
  · have := icG_at hg i hi
    rcases hb with hb | hb
    · rw [this.1] at hb; cases hb
    · rw [this.2] at hb; cases hb
theorem ic_flag {f g h : List Pt} {l : List Rt} {i : Nat} : ((((!icG f g h l i || !(vR f (getA zR l i)).2) || !(vR h (vO f (getA zR l i))).2) || !(vR h (getA zR l i)).2) || !(vR g (vO h (getA zR l i))).2) = !icG f g h l (i + 1) := by
  rw [icG_succ, twR_g, twR_g]
  generalize icG f g h l i = a
  generalize (vR f (getA zR l i)).2 = b
  generalize (vR h (vO f (getA zR l i))).2 = c
  generalize (vR h (getA zR l i)).2 = d
  generalize (vR g (vO h (getA zR l i))).2 = e
  cases a <;> cases b <;> cases c <;> cases d <;> cases e <;> rfl
noncomputable def icsR (f g h : List Pt) : Bool × Bool := match icG f g h (tpO f g h) (tpO f g h).length with
  | true => (icL f g h (tpO f g h) (tpO f g h).length, true)
  | false => (false, false)
noncomputable def icR (f g h : List Pt) : Bool × Bool := match tpG f g h with
  | true => icsR f g h
  | false => (false, false)
noncomputable def cjRes (f g h : List Pt) : Bool × Bool := match tpsOk f g h with
  | true => icR f g h
  | false => (false, false)
theorem icR_t {f g h : List Pt} (h1 : tpG f g h = true) : icR f g h = icsR f g h := by unfold icR; rw [h1]
theorem icR_f {f g h : List Pt} (h1 : tpG f g h = false) : icR f g h = (false, false) := by unfold icR; rw [h1]
theorem icsR_t {f g h : List Pt} (h1 : icG f g h (tpO f g h) (tpO f g h).length = true) : icsR f g h = (icL f g h (tpO f g h) (tpO f g h).length, true) := by unfold icsR; rw [h1]
theorem icsR_f {f g h : List Pt} (h1 : icG f g h (tpO f g h) (tpO f g h).length = false) : icsR f g h = (false, false) := by unfold icsR; rw [h1]
theorem cjRes_t {f g h : List Pt} (h1 : tpsOk f g h = true) : cjRes f g h = icR f g h := by unfold cjRes; rw [h1]
theorem cjRes_f {f g h : List Pt} (h1 : tpsOk f g h = false) : cjRes f g h = (false, false) := by unfold cjRes; rw [h1]
theorem tpsR_ok {f g h : List Pt} (h1 : (tpsR f g h).2 = true) : tpsOk f g h = true ∧ tpG f g h = true ∧ (tpsR f g h).1 = tpO f g h := by
  cases h2 : tpsOk f g h with
  | false => unfold tpsR at h1; rw [h2] at h1; cases h1
  | true =>
    obtain ⟨a, b, c⟩ := tpsOk_iff.1 h2
    rw [tpsR_t a b c] at h1 ⊢
    have h3 := h1
    rw [tpR_2] at h3
    exact ⟨rfl, h3, by rw [tpR_t h3]⟩
theorem tpsR_no {f g h : List Pt} (h1 : (tpsR f g h).2 = false) : cjRes f g h = (false, false) := by
  cases h2 : tpsOk f g h with
  | false => exact cjRes_f h2
  | true =>
    obtain ⟨a, b, c⟩ := tpsOk_iff.1 h2
    rw [tpsR_t a b c, tpR_2] at h1
    rw [cjRes_t h2, icR_f h1]
end Go.Vx
namespace Go.Vx
open Go
set_option maxRecDepth 100000
set_option linter.unusedSimpArgs false
set_option linter.unusedVariables false

theorem line_q {p q : Pt} {x : Rt} (hp : ptOk p = true) (hq : ptOk q = true) (h : ltR p.x q.x) (hx : goodRt x = true) (ho : (lineR p (slR p q) x).2 = true) : goodRt (lineR p (slR p q) x).1 = true ∧ qR (lineR p (slR p q) x).1 = qR p.y + qR (slR p q) * (qR x - qR p.x) := by
  obtain ⟨s1, s2, s3⟩ := slR_ok hp hq h
  rw [ptOk_iff] at hp hq
  have gx := coord_good hp.1
  have gy := coord_good hp.2
  cases e1 : (subRt x p.x).2 with
  | false => rw [lineR_1 e1] at ho; cases ho
  | true =>
    cases e2 : (mulRt (slR p q) (subRt x p.x).1).2 with
    | false => rw [lineR_2 e1 e2] at ho; cases ho
    | true =>
      rw [lineR_3 e1 e2] at ho ⊢
      have g1 : goodRt (subRt x p.x).1 = true := lowRt_good1 e1
      have g2 : goodRt (mulRt (slR p q) (subRt x p.x).1).1 = true := lowRt_good1 e2
      have g3 : goodRt (addRt p.y (mulRt (slR p q) (subRt x p.x).1).1).1 = true := lowRt_good1 ho
      exact ⟨g3, by rw [q_add gy g2 ho, q_mul s2 g1 e2, q_sub hx gx e1]⟩
/-- between the ends of a rising piece, with how far it has risen -/
theorem vR_in {h : List Pt} {x : Rt} (hc : chOk h = true) (hx : unitRt x = true) (ho : (vR h x).2 = true) :
    ∃ i s, i + 1 < h.length ∧ 0 < s ∧ qR (getA zP h i).x ≤ qR x ∧ qR x ≤ qR (getA zP h (i + 1)).x ∧ qR (vR h x).1 = qR (getA zP h i).y + s * (qR x - qR (getA zP h i).x) ∧ s * (qR (getA zP h (i + 1)).x - qR (getA zP h i).x) = qR (getA zP h (i + 1)).y - qR (getA zP h i).y := by
  obtain ⟨h1, h2, h3, h4⟩ := chOk_iff.1 hc
  obtain ⟨m1, m2, m3, m4, m5⟩ := mapOk_iff.1 h1
  obtain ⟨p1, p2, p3, p4⟩ := pc_spec h1 hx
  have hp := map_pt h1 (i := pcN h x) (by omega)
  have hq := map_pt h1 (i := pcN h x + 1) p1
  have hlt := m5 _ p1
  obtain ⟨s1, s2, s3⟩ := slR_ok hp hq hlt
  have sp := (q_pos s2).1 ((sl_pos hp hq hlt).2 (h4 _ p1))
  have gx := coord_good (ptOk_iff.1 hp).1
  have gX := coord_good (ptOk_iff.1 hq).1
  have hg := unit_good hx
  unfold vR at ho ⊢
  refine ⟨pcN h x, qR (slR (getA zP h (pcN h x)) (getA zP h (pcN h x + 1))), p1, sp, Rat.not_lt.1 fun hh => p2 ((q_lt hg gx).2 hh), Rat.not_lt.1 fun hh => p3 ((q_lt gX hg).2 hh), (line_q hp hq hlt hg ho).2, s3⟩
theorem pts_mono {h : List Pt} (hm : mapOk h = true) (g : Pt → Rt) (hg : ∀ p, ptOk p = true → goodRt (g p) = true) (hs : ∀ i, i + 1 < h.length → ltR (g (getA zP h i)) (g (getA zP h (i + 1)))) : ∀ (i k : Nat), i + k < h.length → qR (g (getA zP h i)) ≤ qR (g (getA zP h (i + k)))
  | i, 0, _ => by rw [Nat.add_zero]; exact Rat.le_refl
  | i, k + 1, hk => by
    have h1 := pts_mono hm g hg hs i k (by omega)
    have h2 := (q_lt (hg _ (map_pt hm (by omega))) (hg _ (map_pt hm (i := i + k + 1) (by omega)))).1 (hs (i + k) (by omega))
    rw [← Nat.add_assoc]
    grind
theorem vR_good {h : List Pt} {x : Rt} (hm : mapOk h = true) (hx : unitRt x = true) (ho : (vR h x).2 = true) : goodRt (vR h x).1 = true := unit_good (vR_unit hm hx ho)
/-- the values of a change rise -/
theorem vR_mono {h : List Pt} {x y : Rt} (hc : chOk h = true) (hx : unitRt x = true) (hy : unitRt y = true) (ho : (vR h x).2 = true) (ho2 : (vR h y).2 = true) (hlt : qR x < qR y) : qR (vR h x).1 < qR (vR h y).1 := by
  obtain ⟨h1, h2, h3, h4⟩ := chOk_iff.1 hc
  obtain ⟨m1, m2, m3, m4, m5⟩ := mapOk_iff.1 h1
  obtain ⟨i, s, a1, a2, a3, a4, a5, a6⟩ := vR_in hc hx ho
  obtain ⟨j, t, b1, b2, b3, b4, b5, b6⟩ := vR_in hc hy ho2
  rw [a5, b5]
  have ex : ∀ (i k : Nat), i + k < h.length → qR (getA zP h i).x ≤ qR (getA zP h (i + k)).x := pts_mono h1 Pt.x (fun p hp => coord_good (ptOk_iff.1 hp).1) m5
  have ey : ∀ (i k : Nat), i + k < h.length → qR (getA zP h i).y ≤ qR (getA zP h (i + k)).y := pts_mono h1 Pt.y (fun p hp => coord_good (ptOk_iff.1 hp).2) h4
  rcases Nat.lt_trichotomy i j with hij | hij | hij
  · -- an earlier piece
    obtain ⟨k, rfl⟩ : ∃ k, j = i + 1 + k := ⟨j - (i + 1), by omega⟩
    have c1 := ex (i + 1) k (by omega)
    have c2 := ey (i + 1) k (by omega)
    by_cases hb : qR (getA zP h (i + 1 + k)).x < qR y
    · have n1 := Rat.mul_pos b2 (show 0 < qR y - qR (getA zP h (i + 1 + k)).x by grind)
      have n2 := Rat.mul_nonneg (Rat.le_of_lt a2) (show 0 ≤ qR (getA zP h (i + 1)).x - qR x by grind)
      grind
    · have e : qR y = qR (getA zP h (i + 1 + k)).x := by grind
      by_cases ha : qR x < qR (getA zP h (i + 1)).x
      · have n2 := Rat.mul_pos a2 (show 0 < qR (getA zP h (i + 1)).x - qR x by grind)
        rw [e]; grind
      · have e2 : qR x = qR (getA zP h (i + 1)).x := by grind
        -- then the piece of y begins behind
        have hk : 0 < k := by
          rcases Nat.eq_zero_or_pos k with h0 | h0
          · subst h0
            rw [Nat.add_zero] at e; rw [e, e2] at hlt; grind
          · exact h0
        obtain ⟨m, rfl⟩ : ∃ m, k = m + 1 := ⟨k - 1, by omega⟩
        have d1 := (q_lt (coord_good (ptOk_iff.1 (map_pt h1 (i := i + 1) (by omega))).2) (coord_good (ptOk_iff.1 (map_pt h1 (i := i + 1 + 1) (by omega))).2)).1 (h4 (i + 1) (by omega))
        have d2 := ey (i + 1 + 1) m (by omega)
        rw [show i + 1 + 1 + m = i + 1 + (m + 1) by omega] at d2
        rw [e, e2]
        grind
  · subst hij
    have lp := (q_lt (coord_good (ptOk_iff.1 (map_pt h1 (i := i) (by omega))).1) (coord_good (ptOk_iff.1 (map_pt h1 (i := i + 1) (by omega))).1)).1 (m5 i a1)
    have e : s = t := by
      by_cases e : s = t
      · exact e
      · exfalso
        have : (s - t) * (qR (getA zP h (i + 1)).x - qR (getA zP h i).x) = 0 := by grind
        by_cases h5 : s < t
        · have := Rat.mul_pos (show 0 < t - s by grind) (show 0 < qR (getA zP h (i + 1)).x - qR (getA zP h i).x by grind); grind
        · have := Rat.mul_pos (show 0 < s - t by grind) (show 0 < qR (getA zP h (i + 1)).x - qR (getA zP h i).x by grind); grind
    subst e
    have := Rat.mul_pos a2 (show 0 < qR y - qR x by grind)
    grind
  · -- a later piece: not so
    exfalso
    obtain ⟨k, rfl⟩ : ∃ k, i = j + 1 + k := ⟨i - (j + 1), by omega⟩
    have c1 := ex (j + 1) k (by omega)
    grind
end Go.Vx
