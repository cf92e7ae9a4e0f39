/- Where a map has a value, and test points of a conjugacy: plain laws. -/
import Derived.Test.YtlknhfldkkjclaaVpSo
import Derived.Test.YtlknhfldkkjclaaVpCh
namespace Go.Vx
open Go
set_option maxRecDepth 100000
set_option linter.unusedSimpArgs false
set_option linter.unusedVariables false

theorem Gd.app {l m : List Rt} (h1 : Gd l) (h2 : Gd m) : Gd (l ++ m) := fun x hx => by
  rcases List.mem_append.1 hx with h | h
  · exact h1 x h
  · exact h2 x h
theorem Gd.one {x : Rt} (h : goodRt x = true) : Gd [x] := fun z hz => by rw [List.mem_singleton.1 hz]; exact h
theorem Gd.bif {b : Bool} {l : List Rt} (h : Gd l) : Gd (bif b then l else []) := by cases b; exact Gd.nil; exact h
theorem len_bif {b : Bool} {x : Rt} : (bif b then [x] else []).length ≤ 1 := by cases b <;> simp
theorem cmpRt_zero {a b : Rt} (ha : goodRt a = true) (hb : goodRt b = true) : cmpRt a b = 0 ↔ a = b := by
  constructor
  · intro h
    refine good_eq ha hb ?_
    unfold cmpRt sgn at h
    split at h
    · cases h
    · split at h
      · cases h
      · omega
  · rintro rfl
    unfold cmpRt
    rw [Int.sub_self]; rfl

def crP (p q : Pt) (y : Rt) : Bool := decide (cmpRt p.y y * cmpRt q.y y < 0)
noncomputable def bkP (f : List Pt) (y : Rt) (i : Nat) : Rt × Bool := backR (getA zP f i) (slR (getA zP f i) (getA zP f (i + 1))) y
/-- what is added at point number i, and at the piece that ends there -/
def biA (f : List Pt) (y : Rt) (i : Nat) : List Rt := bif eqRt (getA zP f i).y y then [(getA zP f i).x] else []
abbrev prI (i : Nat) : Nat := ((i : Int) - 1).toNat
theorem prI_succ (i : Nat) : prI (i + 1) = i := by show (((i + 1 : Nat) : Int) - 1).toNat = i; omega
def biT (f : List Pt) (y : Rt) (i : Nat) : Bool := bif decide ((0 : Int) < (i : Int)) then decide (cmpRt (getA zP f (prI i)).y y * cmpRt (getA zP f i).y y < 0) else false
noncomputable def biX (f : List Pt) (y : Rt) (i : Nat) : Rt := backO (getA zP f (prI i)) (slR (getA zP f (prI i)) (getA zP f i)) y
noncomputable def biB (f : List Pt) (y : Rt) (i : Nat) : List Rt := bif biT f y i then [biX f y i] else []
@[irreducible] noncomputable def biRaw (f : List Pt) (y : Rt) (n : Nat) : List Rt := (List.range n).flatMap fun i => biA f y i ++ biB f y i
theorem biRaw_zero (f : List Pt) (y : Rt) : biRaw f y 0 = [] := by unfold biRaw; rfl
theorem biRaw_succ (f : List Pt) (y : Rt) (n : Nat) : biRaw f y (n + 1) = biRaw f y n ++ (biA f y n ++ biB f y n) := by unfold biRaw; rw [List.range_succ, List.flatMap_append]; simp
@[irreducible] noncomputable def biG (f : List Pt) (y : Rt) (n : Nat) : Bool := (List.range n).all fun i => !biT f y i || (backR (getA zP f (prI i)) (slR (getA zP f (prI i)) (getA zP f i)) y).2
theorem biG_zero (f : List Pt) (y : Rt) : biG f y 0 = true := by unfold biG; rfl
theorem biG_succ (f : List Pt) (y : Rt) (n : Nat) : biG f y (n + 1) = (biG f y n && (!biT f y n || (backR (getA zP f (prI n)) (slR (getA zP f (prI n)) (getA zP f n)) y).2)) := by unfold biG; rw [List.range_succ, List.all_append]; simp
theorem biRaw_len (f : List Pt) (y : Rt) : ∀ n, (biRaw f y n).length ≤ 2 * n
  | 0 => by rw [biRaw_zero]; simp
  | n + 1 => by
    have h := biRaw_len f y n
    have h1 : (biA f y n).length ≤ 1 := len_bif
    have h2 : (biB f y n).length ≤ 1 := len_bif
    rw [biRaw_succ, List.length_append, List.length_append]; omega
theorem backO_good {p : Pt} {s y : Rt} : goodRt (backO p s y) = true := by unfold backO; exact opR_good
theorem biRaw_gd {f : List Pt} {y : Rt} (hf : mapOk f = true) : ∀ {n : Nat}, n ≤ f.length → Gd (biRaw f y n)
  | 0, _ => by rw [biRaw_zero]; exact Gd.nil
  | n + 1, h => by
    rw [biRaw_succ]
    refine (biRaw_gd hf (by omega)).app (Gd.app (Gd.bif (Gd.one ?_)) (Gd.bif (Gd.one (by unfold biX; exact backO_good))))
    exact coord_good (ptOk_iff.1 (map_pt hf (by omega))).1
@[irreducible] noncomputable def bfO (f : List Pt) (y : Rt) : List Rt := putsL [] (biRaw f y f.length)
@[irreducible] noncomputable def bfG (f : List Pt) (y : Rt) : Bool := biG f y f.length
theorem bfO_len {f : List Pt} {y : Rt} (h : f.length ≤ 12) : (bfO f y).length ≤ 24 := by
  unfold bfO
  have h1 := putsL_len (biRaw f y f.length) []
  have h2 := biRaw_len f y f.length
  simp only [List.length_nil] at h1
  omega
theorem bfO_gd {f : List Pt} {y : Rt} (hf : mapOk f = true) : Gd (bfO f y) := by unfold bfO; exact putsL_good Gd.nil (biRaw_gd hf (Nat.le_refl _))

/-- what the reference adds at a piece -/
noncomputable def bsA (f : List Pt) (y : Rt) (i : Nat) : List Rt := (bif decide (cmpRt (getA zP f i).y y = 0) then [(getA zP f i).x] else []) ++ ((bif decide (cmpRt (getA zP f (i + 1)).y y = 0) then [(getA zP f (i + 1)).x] else []) ++ (bif crP (getA zP f i) (getA zP f (i + 1)) y then [(bkP f y i).1] else []))
@[irreducible] noncomputable def bsRaw (f : List Pt) (y : Rt) (n : Nat) : List Rt := (List.range n).flatMap (bsA f y)
theorem bsRaw_zero (f : List Pt) (y : Rt) : bsRaw f y 0 = [] := by unfold bsRaw; rfl
theorem bsRaw_succ (f : List Pt) (y : Rt) (n : Nat) : bsRaw f y (n + 1) = bsRaw f y n ++ bsA f y n := by unfold bsRaw; rw [List.range_succ, List.flatMap_append]; simp
theorem bsRaw_len (f : List Pt) (y : Rt) : ∀ n, (bsRaw f y n).length ≤ 3 * n
  | 0 => by rw [bsRaw_zero]; simp
  | n + 1 => by
    have h := bsRaw_len f y n
    have h2 : (bsA f y n).length ≤ 3 := by
      unfold bsA
      rw [List.length_append, List.length_append]
      have := @len_bif (decide (cmpRt (getA zP f n).y y = 0)) (getA zP f n).x
      have := @len_bif (decide (cmpRt (getA zP f (n + 1)).y y = 0)) (getA zP f (n + 1)).x
      have := @len_bif (crP (getA zP f n) (getA zP f (n + 1)) y) (bkP f y n).1
      omega
    rw [bsRaw_succ, List.length_append]; omega
theorem bkP_good {f : List Pt} {y : Rt} {i : Nat} (h : (bkP f y i).2 = true) : goodRt (bkP f y i).1 = true := by
  unfold bkP at h ⊢
  rw [← backO_t h]; exact backO_good
theorem biG_at' {f : List Pt} {y : Rt} : ∀ {n : Nat}, biG f y n = true → ∀ i, i < n → biT f y i = true → (backR (getA zP f (prI i)) (slR (getA zP f (prI i)) (getA zP f i)) y).2 = true
  | 0, _, i, h, _ => by omega
  | n + 1, h, i, hi, ht => by
    rw [biG_succ, Bool.and_eq_true] at h
    by_cases e : i = n
    · subst e
      rw [ht] at h
      simpa using h.2
    · exact biG_at' h.1 i (by omega) ht
theorem biG_at {f : List Pt} {y : Rt} {n : Nat} (h : biG f y n = true) (i : Nat) (hi : i + 1 < n) (ht : biT f y (i + 1) = true) : (bkP f y i).2 = true := by
  have := biG_at' h (i + 1) hi ht
  rw [prI_succ] at this
  exact this
theorem biT_succ (f : List Pt) (y : Rt) (i : Nat) : biT f y (i + 1) = crP (getA zP f i) (getA zP f (i + 1)) y := by
  unfold biT
  rw [prI_succ, decide_eq_true (by omega)]; rfl
theorem biT_zero (f : List Pt) (y : Rt) : biT f y 0 = false := by unfold biT; rfl
theorem biX_succ (f : List Pt) (y : Rt) (i : Nat) : biX f y (i + 1) = backO (getA zP f i) (slR (getA zP f i) (getA zP f (i + 1))) y := by unfold biX; rw [prI_succ]
theorem mem_bif {b : Bool} {x z : Rt} : z ∈ (bif b then [x] else []) ↔ b = true ∧ z = x := by cases b <;> simp
/-- the same members -/
theorem raw_mem {f : List Pt} {y : Rt} (hf : mapOk f = true) (hy : goodRt y = true) (hg : biG f y f.length = true) {z : Rt} : z ∈ biRaw f y f.length ↔ z ∈ bsRaw f y (f.length - 1) := by
  have hl := (mapOk_iff.1 hf).1
  have hpt : ∀ i, i < f.length → goodRt (getA zP f i).y = true := fun i hi => coord_good (ptOk_iff.1 (map_pt hf hi)).2
  have eqv : ∀ i, i < f.length → ((eqRt (getA zP f i).y y = true) ↔ decide (cmpRt (getA zP f i).y y = 0) = true) := fun i hi => by
    unfold eqRt
    rw [decide_eq_true_eq, decide_eq_true_eq, cmpRt_zero (hpt i hi) hy]
  unfold biRaw bsRaw
  simp only [List.mem_flatMap, List.mem_range, biA, biB, bsA, List.mem_append, mem_bif]
  constructor
  · rintro ⟨i, hi, ⟨h1, h2⟩ | ⟨h1, h2⟩⟩
    · rw [eqv i hi] at h1
      by_cases h0 : i = 0
      · exact ⟨0, by omega, .inl ⟨by rw [← h0]; exact h1, by rw [← h0]; exact h2⟩⟩
      · refine ⟨i - 1, by omega, .inr (.inl ⟨?_, ?_⟩)⟩
        · rw [show i - 1 + 1 = i by omega]; exact h1
        · rw [show i - 1 + 1 = i by omega]; exact h2
    · obtain ⟨k, rfl⟩ : ∃ k, i = k + 1 := ⟨i - 1, by
        rcases Nat.eq_zero_or_pos i with h0 | h0
        · rw [h0, biT_zero] at h1; cases h1
        · omega⟩
      have hg2 := biG_at hg k hi h1
      rw [biT_succ] at h1
      rw [biX_succ] at h2
      refine ⟨k, by omega, .inr (.inr ⟨h1, ?_⟩)⟩
      rw [h2]
      exact backO_t hg2
  · rintro ⟨i, hi, ⟨h1, h2⟩ | ⟨h1, h2⟩ | ⟨h1, h2⟩⟩
    · exact ⟨i, by omega, .inl ⟨(eqv i (by omega)).2 h1, h2⟩⟩
    · exact ⟨i + 1, by omega, .inl ⟨(eqv (i + 1) (by omega)).2 h1, h2⟩⟩
    · have ht : biT f y (i + 1) = true := by rw [biT_succ]; exact h1
      have hg2 := biG_at hg i (by omega) ht
      refine ⟨i + 1, by omega, .inr ⟨ht, ?_⟩⟩
      rw [biX_succ, h2]
      exact (backO_t hg2).symm
theorem bsA_gd {f : List Pt} {y : Rt} (hf : mapOk f = true) {i : Nat} (h : i + 1 < f.length) (hb : crP (getA zP f i) (getA zP f (i + 1)) y = true → (bkP f y i).2 = true) : Gd (bsA f y i) := by
  have hx : ∀ j, j < f.length → goodRt (getA zP f j).x = true := fun j hj => coord_good (ptOk_iff.1 (map_pt hf hj)).1
  refine Gd.app (Gd.bif (Gd.one (hx i (by omega)))) (Gd.app (Gd.bif (Gd.one (hx (i + 1) h))) ?_)
  cases hc : crP (getA zP f i) (getA zP f (i + 1)) y
  · exact Gd.nil
  · exact Gd.one (bkP_good (hb hc))
theorem bsRaw_gd {f : List Pt} {y : Rt} (hf : mapOk f = true) : ∀ {n : Nat}, n + 1 ≤ f.length → biG f y (n + 1) = true → Gd (bsRaw f y n)
  | 0, _, _ => by rw [bsRaw_zero]; exact Gd.nil
  | n + 1, h, hg => by
    rw [bsRaw_succ]
    refine (bsRaw_gd hf (by omega) ?_).app (bsA_gd hf (by omega) fun hc => ?_)
    · rw [biG_succ, Bool.and_eq_true] at hg; exact hg.1
    · exact biG_at hg n (by omega) (by rw [biT_succ]; exact hc)
theorem bf_eq {f : List Pt} {y : Rt} (hf : mapOk f = true) (hy : goodRt y = true) (hg : bfG f y = true) : putsL [] (bsRaw f y (f.length - 1)) = bfO f y := by
  unfold bfG at hg
  have hl := (mapOk_iff.1 hf).1
  unfold bfO
  have g1 : Gd (bsRaw f y (f.length - 1)) := bsRaw_gd hf (by omega) (by rw [show f.length - 1 + 1 = f.length by omega]; exact hg)
  have g2 := biRaw_gd (y := y) hf (Nat.le_refl _)
  refine SS.uniq (putsL_ss Gd.nil g1 SS.nil) (putsL_ss Gd.nil g2 SS.nil) fun x => ?_
  rw [putsL_mem, putsL_mem, raw_mem hf hy hg]
/-- the reference's result -/
noncomputable def bfR (f : List Pt) (y : Rt) : List Rt × Bool := match bfG f y with
  | true => (bfO f y, true)
  | false => ([], false)
theorem bfR_t {f : List Pt} {y : Rt} (h : bfG f y = true) : bfR f y = (bfO f y, true) := by unfold bfR; rw [h]
theorem bfR_f {f : List Pt} {y : Rt} (h : bfG f y = false) : bfR f y = ([], false) := by unfold bfR; rw [h]
theorem bfR_2 {f : List Pt} {y : Rt} : (bfR f y).2 = bfG f y := by cases h : bfG f y; rw [bfR_f h]; rw [bfR_t h]
theorem bfR_1 {f : List Pt} {y : Rt} (h : (bfR f y).2 = true) : (bfR f y).1 = bfO f y := by rw [bfR_2] at h; rw [bfR_t h]
theorem biG_mono {f : List Pt} {y : Rt} : ∀ {n m : Nat}, n ≤ m → biG f y m = true → biG f y n = true
  | n, 0, h, hg => by rw [show n = 0 by omega]; exact hg
  | n, m + 1, h, hg => by
    by_cases e : n = m + 1
    · rw [e]; exact hg
    · rw [biG_succ, Bool.and_eq_true] at hg
      exact biG_mono (by omega) hg.1
/-- a piece without a value: the whole is bad -/
theorem bfG_f {f : List Pt} {y : Rt} {i : Nat} (h : i + 1 < f.length) (hc : crP (getA zP f i) (getA zP f (i + 1)) y = true) (hb : (bkP f y i).2 = false) : bfG f y = false := by
  unfold bfG
  cases hg : biG f y f.length
  · rfl
  · have := biG_at hg i h (by rw [biT_succ]; exact hc)
    rw [hb] at this; cases this
/-- one round of the program's loop -/
theorem bi_tt {f : List Pt} {y : Rt} {i : Nat} (h1 : eqRt (getA zP f i).y y = true) (h2 : biT f y i = true) : biRaw f y i ++ [(getA zP f i).x] ++ [biX f y i] = biRaw f y (i + 1) := by
  rw [biRaw_succ, biA, biB, h1, h2, List.append_assoc]; rfl
theorem bi_tf {f : List Pt} {y : Rt} {i : Nat} (h1 : eqRt (getA zP f i).y y = true) (h2 : biT f y i = false) : biRaw f y i ++ [(getA zP f i).x] = biRaw f y (i + 1) := by
  rw [biRaw_succ, biA, biB, h1, h2]; rfl
theorem bi_ft {f : List Pt} {y : Rt} {i : Nat} (h1 : eqRt (getA zP f i).y y = false) (h2 : biT f y i = true) : biRaw f y i ++ [biX f y i] = biRaw f y (i + 1) := by
  rw [biRaw_succ, biA, biB, h1, h2]; rfl
theorem bi_ff {f : List Pt} {y : Rt} {i : Nat} (h1 : eqRt (getA zP f i).y y = false) (h2 : biT f y i = false) : biRaw f y i = biRaw f y (i + 1) := by
  rw [biRaw_succ, biA, biB, h1, h2]; simp
theorem bg_t {f : List Pt} {y : Rt} {i : Nat} (c : Bool) (h2 : biT f y i = true) : ((c || !biG f y i) || !(backR (getA zP f (prI i)) (slR (getA zP f (prI i)) (getA zP f i)) y).2) = (c || !biG f y (i + 1)) := by
  rw [biG_succ, h2]
  generalize (backR (getA zP f (prI i)) (slR (getA zP f (prI i)) (getA zP f i)) y).2 = b
  generalize biG f y i = g
  cases c <;> cases g <;> cases b <;> rfl
theorem bg_f {f : List Pt} {y : Rt} {i : Nat} (c : Bool) (h2 : biT f y i = false) : (c || !biG f y i) = (c || !biG f y (i + 1)) := by
  rw [biG_succ, h2]
  generalize biG f y i = g
  cases c <;> cases g <;> rfl
def putB (b : Bool) (l : List Rt) (x : Rt) : List Rt := match b with
  | true => putL l x
  | false => l
theorem putsL_bif (b : Bool) (l : List Rt) (x : Rt) : putsL l (bif b then [x] else []) = putB b l x := by
  cases b
  · exact putsL_nil l
  · show putsL l [x] = putL l x
    rw [putsL_cons, putsL_nil]
theorem bs_step (f : List Pt) (y : Rt) (i : Nat) : putsL [] (bsRaw f y (i + 1)) = putB (crP (getA zP f i) (getA zP f (i + 1)) y) (putB (decide (cmpRt (getA zP f (i + 1)).y y = 0)) (putB (decide (cmpRt (getA zP f i).y y = 0)) (putsL [] (bsRaw f y i)) (getA zP f i).x) (getA zP f (i + 1)).x) (bkP f y i).1 := by
  rw [bsRaw_succ, putsL_append, bsA, putsL_append, putsL_append, putsL_bif, putsL_bif, putsL_bif]
theorem putB_gd {b : Bool} {l : List Rt} {x : Rt} (h : Gd l) (hx : goodRt x = true) : Gd (putB b l x) := by
  cases b
  · exact h
  · exact putL_good h hx
theorem putB_len (b : Bool) (l : List Rt) (x : Rt) : (putB b l x).length ≤ l.length + 1 := by
  cases b
  · show l.length ≤ _; omega
  · exact putL_len x l
theorem crP_f {p q : Pt} {y : Rt} (h : 0 ≤ cmpRt p.y y * cmpRt q.y y) : crP p q y = false := decide_eq_false (Int.not_lt.2 h)
theorem crP_t {p q : Pt} {y : Rt} (h : ¬ 0 ≤ cmpRt p.y y * cmpRt q.y y) : crP p q y = true := decide_eq_true (Int.not_le.1 h)
theorem bs_inv_f {f : List Pt} {y : Rt} {i : Nat} (h : biG f y (i + 1) = true) (hc : crP (getA zP f i) (getA zP f (i + 1)) y = false) : biG f y (i + 1 + 1) = true := by
  rw [biG_succ, h, biT_succ, hc]; rfl
theorem bs_inv_t {f : List Pt} {y : Rt} {i : Nat} (h : biG f y (i + 1) = true) (hc : (bkP f y i).2 = true) : biG f y (i + 1 + 1) = true := by
  rw [biG_succ, h, prI_succ]
  unfold bkP at hc
  rw [hc]; simp
theorem cmp_1 (a b : Rt) : cmpRt a b = -1 ∨ cmpRt a b = 0 ∨ cmpRt a b = 1 := by
  unfold cmpRt sgn
  split
  · exact .inl rfl
  · split
    · exact .inr (.inr rfl)
    · exact .inr (.inl rfl)
theorem cmp_bd (a b c d : Rt) : -1 ≤ cmpRt a b * cmpRt c d ∧ cmpRt a b * cmpRt c d ≤ 1 := by
  rcases cmp_1 a b with h | h | h <;> rcases cmp_1 c d with h2 | h2 | h2 <;> rw [h, h2] <;> decide
theorem cmp_lo (a b c d : Rt) : -9223372036854775808 ≤ cmpRt a b * cmpRt c d := by have := cmp_bd a b c d; omega
theorem cmp_hi (a b c d : Rt) : cmpRt a b * cmpRt c d ≤ 9223372036854775807 := by have := cmp_bd a b c d; omega

/-! ### bends and test points -/
@[irreducible] noncomputable def bdRaw (f h : List Pt) (n : Nat) : List Rt := (f.map Pt.x ++ h.map Pt.x) ++ (List.range n).flatMap fun i => bfO f (getA zP h i).x
theorem bdRaw_zero (f h : List Pt) : bdRaw f h 0 = f.map Pt.x ++ h.map Pt.x := by unfold bdRaw; simp
theorem bdRaw_succ (f h : List Pt) (n : Nat) : bdRaw f h (n + 1) = bdRaw f h n ++ bfO f (getA zP h n).x := by unfold bdRaw; rw [List.range_succ, List.flatMap_append, List.append_assoc, List.append_assoc]; simp
@[irreducible] noncomputable def bdG_ (f h : List Pt) (n : Nat) : Bool := (List.range n).all fun i => bfG f (getA zP h i).x
theorem bdG_zero (f h : List Pt) : bdG_ f h 0 = true := by unfold bdG_; rfl
theorem bdG_succ (f h : List Pt) (n : Nat) : bdG_ f h (n + 1) = (bdG_ f h n && bfG f (getA zP h n).x) := by unfold bdG_; rw [List.range_succ, List.all_append]; simp
theorem bdRaw_len {f h : List Pt} (hf : f.length ≤ 12) (hh : h.length ≤ 12) : ∀ n, (bdRaw f h n).length ≤ 24 + 24 * n
  | 0 => by rw [bdRaw_zero, List.length_append, List.length_map, List.length_map]; omega
  | n + 1 => by
    have := bdRaw_len hf hh n
    have := @bfO_len f (getA zP h n).x hf
    rw [bdRaw_succ, List.length_append]; omega
theorem xs_gd {f : List Pt} (hf : mapOk f = true) : Gd (f.map Pt.x) := fun x hx => by
  obtain ⟨p, hp, rfl⟩ := List.mem_map.1 hx
  exact coord_good (ptOk_iff.1 ((mapOk_iff.1 hf).2.1 p hp)).1
theorem bdRaw_gd {f h : List Pt} (hf : mapOk f = true) (hh : mapOk h = true) : ∀ n, Gd (bdRaw f h n)
  | 0 => by rw [bdRaw_zero]; exact (xs_gd hf).app (xs_gd hh)
  | n + 1 => by rw [bdRaw_succ]; exact (bdRaw_gd hf hh n).app (bfO_gd hf)
@[irreducible] noncomputable def bdO (f h : List Pt) : List Rt := putsL [] (bdRaw f h h.length)
@[irreducible] noncomputable def bdG (f h : List Pt) : Bool := bdG_ f h h.length
theorem bdO_len {f h : List Pt} (hf : mapOk f = true) (hh : mapOk h = true) : (bdO f h).length ≤ 312 := by
  unfold bdO
  have l1 := (mapOk_iff.1 hf).1
  have l2 := (mapOk_iff.1 hh).1
  have h1 := putsL_len (bdRaw f h h.length) []
  have h2 := bdRaw_len l1.2 l2.2 h.length
  simp only [List.length_nil] at h1
  omega
theorem bdO_gd {f h : List Pt} (hf : mapOk f = true) (hh : mapOk h = true) : Gd (bdO f h) := by unfold bdO; exact putsL_good Gd.nil (bdRaw_gd hf hh _)
theorem bdO_ss {f h : List Pt} (hf : mapOk f = true) (hh : mapOk h = true) : SS (bdO f h) := by unfold bdO; exact putsL_ss Gd.nil (bdRaw_gd hf hh _) SS.nil
theorem bg_step (c : Bool) {f h : List Pt} {i : Nat} : ((c || !bdG_ f h i) || !bfG f (getA zP h i).x) = (c || !bdG_ f h (i + 1)) := by
  rw [bdG_succ]
  generalize bdG_ f h i = g
  generalize bfG f (getA zP h i).x = b
  cases c <;> cases g <;> cases b <;> rfl
/-- in the order of the reference -/
@[irreducible] noncomputable def bkRaw (f h : List Pt) (n : Nat) : List Rt := f.map Pt.x ++ (List.range n).flatMap fun i => [(getA zP h i).x] ++ bfO f (getA zP h i).x
theorem bkRaw_zero (f h : List Pt) : bkRaw f h 0 = f.map Pt.x := by unfold bkRaw; simp
theorem bkRaw_succ (f h : List Pt) (n : Nat) : bkRaw f h (n + 1) = (bkRaw f h n ++ [(getA zP h n).x]) ++ bfO f (getA zP h n).x := by unfold bkRaw; rw [List.range_succ, List.flatMap_append]; simp
theorem bkRaw_len {f h : List Pt} (hf : f.length ≤ 12) : ∀ n, (bkRaw f h n).length ≤ 12 + 25 * n
  | 0 => by rw [bkRaw_zero, List.length_map]; omega
  | n + 1 => by
    have := bkRaw_len (h := h) hf n
    have := @bfO_len f (getA zP h n).x hf
    rw [bkRaw_succ, List.length_append, List.length_append]; simp only [List.length_cons, List.length_nil]; omega
theorem pt_gd {h : List Pt} (hh : mapOk h = true) {i : Nat} (hi : i < h.length) : goodRt (getA zP h i).x = true := coord_good (ptOk_iff.1 (map_pt hh hi)).1
theorem bkRaw_gd {f h : List Pt} (hf : mapOk f = true) (hh : mapOk h = true) : ∀ n, n ≤ h.length → Gd (bkRaw f h n)
  | 0, _ => by rw [bkRaw_zero]; exact xs_gd hf
  | n + 1, hn => by rw [bkRaw_succ]; exact ((bkRaw_gd hf hh n (by omega)).app (Gd.one (pt_gd hh (by omega)))).app (bfO_gd hf)
theorem bk_eq {f h : List Pt} (hf : mapOk f = true) (hh : mapOk h = true) : putsL [] (bkRaw f h h.length) = bdO f h := by
  refine SS.uniq (putsL_ss Gd.nil (bkRaw_gd hf hh _ (Nat.le_refl _)) SS.nil) (bdO_ss hf hh) fun x => ?_
  unfold bdO
  rw [putsL_mem, putsL_mem]
  unfold bkRaw bdRaw
  simp only [List.mem_append, List.mem_flatMap, List.mem_range, List.mem_singleton, List.mem_map]
  constructor
  · rintro (h1 | h1 | ⟨i, hi, h1 | h1⟩)
    · cases h1
    · exact .inr (.inl (.inl h1))
    · exact .inr (.inl (.inr ⟨_, getA_mem _ hi, h1.symm⟩))
    · exact .inr (.inr ⟨i, hi, h1⟩)
  · rintro (h1 | (h1 | ⟨p, hp, h1⟩) | ⟨i, hi, h1⟩)
    · cases h1
    · exact .inr (.inl h1)
    · obtain ⟨i, hi, rfl⟩ := List.getElem_of_mem hp
      exact .inr (.inr ⟨i, hi, .inl (by rw [← h1, getA_eq]; simp [List.getD, hi])⟩)
    · exact .inr (.inr ⟨i, hi, .inr h1⟩)
noncomputable def bdR (f h : List Pt) : List Rt × Bool := match bdG f h with
  | true => (bdO f h, true)
  | false => ([], false)
theorem bdR_t {f h : List Pt} (hg : bdG f h = true) : bdR f h = (bdO f h, true) := by unfold bdR; rw [hg]
theorem bdR_f {f h : List Pt} (hg : bdG f h = false) : bdR f h = ([], false) := by unfold bdR; rw [hg]
theorem bdR_2 {f h : List Pt} : (bdR f h).2 = bdG f h := by cases hg : bdG f h; rw [bdR_f hg]; rw [bdR_t hg]
theorem bdR_1 {f h : List Pt} (hg : (bdR f h).2 = true) : (bdR f h).1 = bdO f h := by rw [bdR_2] at hg; rw [bdR_t hg]
theorem bdG__at {f h : List Pt} : ∀ {n : Nat}, bdG_ f h n = true → ∀ i, i < n → bfG f (getA zP h i).x = true
  | 0, _, i, hi => by omega
  | n + 1, hg, i, hi => by
    rw [bdG_succ, Bool.and_eq_true] at hg
    by_cases e : i = n
    · rw [e]; exact hg.2
    · exact bdG__at hg.1 i (by omega)
theorem bdG_f {f h : List Pt} {i : Nat} (hi : i < h.length) (hb : (bfR f (getA zP h i).x).2 = false) : bdG f h = false := by
  rw [bfR_2] at hb
  unfold bdG
  cases hg : bdG_ f h h.length
  · rfl
  · rw [bdG__at hg i hi] at hb; cases hb
theorem bdG_next {f h : List Pt} {i : Nat} (hg : bdG_ f h i = true) (hb : (bfR f (getA zP h i).x).2 = true) : bdG_ f h (i + 1) = true := by
  rw [bfR_2] at hb
  rw [bdG_succ, hg, hb]; rfl

/-- already in order -/
theorem putsL_id {l : List Rt} (hg : Gd l) (hs : SS l) : putsL [] l = l := SS.uniq (putsL_ss Gd.nil hg SS.nil) hs fun x => by rw [putsL_mem]; simp
@[irreducible] noncomputable def tpL (g h : List Pt) (n : Nat) : List Rt := (List.range n).map fun i => chO h (getA zP g i).x
theorem tpL_zero (g h : List Pt) : tpL g h 0 = [] := by unfold tpL; rfl
theorem tpL_succ (g h : List Pt) (n : Nat) : tpL g h (n + 1) = tpL g h n ++ [chO h (getA zP g n).x] := by unfold tpL; rw [List.range_succ, List.map_append]; rfl
theorem tpL_len (g h : List Pt) (n : Nat) : (tpL g h n).length = n := by unfold tpL; simp
theorem chO_good {h : List Pt} {y : Rt} : goodRt (chO h y) = true := by unfold chO; exact backO_good
theorem tpL_gd (g h : List Pt) (n : Nat) : Gd (tpL g h n) := fun x hx => by
  unfold tpL at hx
  obtain ⟨i, _, rfl⟩ := List.mem_map.1 hx
  exact chO_good
@[irreducible] noncomputable def tpG_ (f g h : List Pt) (n : Nat) : Bool := bdG f h && (List.range n).all fun i => (chB h (getA zP g i).x).2
theorem tpG_zero (f g h : List Pt) : tpG_ f g h 0 = bdG f h := by unfold tpG_; simp
theorem tpG_succ (f g h : List Pt) (n : Nat) : tpG_ f g h (n + 1) = (tpG_ f g h n && (chB h (getA zP g n).x).2) := by unfold tpG_; rw [List.range_succ, List.all_append]; simp [Bool.and_assoc]
@[irreducible] noncomputable def tpO (f g h : List Pt) : List Rt := putsL [] (bdO f h ++ tpL g h g.length)
@[irreducible] noncomputable def tpG (f g h : List Pt) : Bool := tpG_ f g h g.length
theorem tg_step (c : Bool) {f g h : List Pt} {i : Nat} : ((c || !tpG_ f g h i) || !(chB h (getA zP g i).x).2) = (c || !tpG_ f g h (i + 1)) := by
  rw [tpG_succ]
  generalize tpG_ f g h i = a
  generalize (chB h (getA zP g i).x).2 = b
  cases c <;> cases a <;> cases b <;> rfl
theorem tp_eq {f g h : List Pt} (hf : mapOk f = true) (hh : mapOk h = true) : putsL (bdO f h) (tpL g h g.length) = tpO f g h := by
  unfold tpO
  rw [putsL_append, putsL_id (bdO_gd hf hh) (bdO_ss hf hh)]
theorem tpL_one {f g h : List Pt} {i : Nat} (hb : (chB h (getA zP g i).x).2 = true) : putL (putsL (bdO f h) (tpL g h i)) (chB h (getA zP g i).x).1 = putsL (bdO f h) (tpL g h (i + 1)) := by
  rw [tpL_succ, putsL_append, putsL_cons, putsL_nil, chO_t hb]
theorem tpO_len {f g h : List Pt} (hf : mapOk f = true) (hg : mapOk g = true) (hh : mapOk h = true) : (tpO f g h).length ≤ 324 := by
  unfold tpO
  have l1 := bdO_len hf hh
  have l2 := (mapOk_iff.1 hg).1
  have h1 := putsL_len (bdO f h ++ tpL g h g.length) []
  rw [List.length_append, tpL_len] at h1
  simp only [List.length_nil] at h1
  omega
noncomputable def tpR (f g h : List Pt) : List Rt × Bool := match tpG f g h with
  | true => (tpO f g h, true)
  | false => ([], false)
theorem tpR_t {f g h : List Pt} (hg : tpG f g h = true) : tpR f g h = (tpO f g h, true) := by unfold tpR; rw [hg]
theorem tpR_f {f g h : List Pt} (hg : tpG f g h = false) : tpR f g h = ([], false) := by unfold tpR; rw [hg]
theorem tpR_2 {f g h : List Pt} : (tpR f g h).2 = tpG f g h := by cases hg : tpG f g h; rw [tpR_f hg]; rw [tpR_t hg]
theorem tpG__at {f g h : List Pt} : ∀ {n : Nat}, tpG_ f g h n = true → bdG f h = true ∧ ∀ i, i < n → (chB h (getA zP g i).x).2 = true
  | 0, hg => by rw [tpG_zero] at hg; exact ⟨hg, fun i hi => by omega⟩
  | n + 1, hg => by
    rw [tpG_succ, Bool.and_eq_true] at hg
    obtain ⟨a, b⟩ := tpG__at hg.1
    refine ⟨a, fun i hi => ?_⟩
    by_cases e : i = n
    · rw [e]; exact hg.2
    · exact b i (by omega)
theorem tpG_f0 {f g h : List Pt} (hb : (bdR f h).2 = false) : tpG f g h = false := by
  rw [bdR_2] at hb
  unfold tpG
  cases hg : tpG_ f g h g.length
  · rfl
  · rw [(tpG__at hg).1] at hb; cases hb
theorem tpG_f {f g h : List Pt} {i : Nat} (hi : i < g.length) (hb : (chB h (getA zP g i).x).2 = false) : tpG f g h = false := by
  unfold tpG
  cases hg : tpG_ f g h g.length
  · rfl
  · rw [(tpG__at hg).2 i hi] at hb; cases hb
noncomputable def tpsOk (f g h : List Pt) : Bool := mapOk f && (mapOk g && chOk h)
theorem tpsOk_iff {f g h : List Pt} : tpsOk f g h = true ↔ (mapOk f = true ∧ mapOk g = true ∧ chOk h = true) := by unfold tpsOk; rw [Bool.and_eq_true, Bool.and_eq_true]
noncomputable def tpsR (f g h : List Pt) : List Rt × Bool := match tpsOk f g h with
  | true => tpR f g h
  | false => ([], false)
theorem tpsR_t {f g h : List Pt} (h1 : mapOk f = true) (h2 : mapOk g = true) (h3 : chOk h = true) : tpsR f g h = tpR f g h := by unfold tpsR tpsOk; rw [h1, h2, h3]; rfl
theorem tpsR_f1 {f g h : List Pt} (h1 : mapOk f = false) : tpsR f g h = ([], false) := by unfold tpsR tpsOk; rw [h1]; rfl
theorem tpsR_f2 {f g h : List Pt} (h1 : mapOk g = false) : tpsR f g h = ([], false) := by unfold tpsR tpsOk; rw [h1]; cases mapOk f <;> rfl
theorem tpsR_f3 {f g h : List Pt} (h1 : chOk h = false) : tpsR f g h = ([], false) := by unfold tpsR tpsOk; rw [h1]; cases mapOk f <;> cases mapOk g <;> rfl
theorem tpsR_len (f g h : List Pt) : (tpsR f g h).1.length ≤ 324 := by
  cases h1 : mapOk f
  · rw [tpsR_f1 h1]; simp
  · cases h2 : mapOk g
    · rw [tpsR_f2 h2]; simp
    · cases h3 : chOk h
      · rw [tpsR_f3 h3]; simp
      · rw [tpsR_t h1 h2 h3]
        cases hg : tpG f g h
        · rw [tpR_f hg]; simp
        · rw [tpR_t hg]; exact tpO_len h1 h2 (chOk_iff.1 h3).1
end Go.Vx
