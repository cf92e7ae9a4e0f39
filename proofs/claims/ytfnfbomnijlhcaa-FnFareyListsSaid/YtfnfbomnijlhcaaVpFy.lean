/- Farey lists: neighbours, mediants, nearest fractions: plain laws. -/
import Derived.Test.YtfnfbomnijlhcaaVxFa
import Derived.Test.YtfnfbomnijlhcaaVxD
import Derived.Test.YtfnfbomnijlhcaaVxG
namespace Go.Vx
open Go
set_option maxRecDepth 100000
set_option linter.unusedSimpArgs false
set_option linter.unusedVariables false

/-! what stands in a list -/

theorem low_val' {j d : Nat} (h : 1 ≤ d) (h2 : d ≤ 20) (h3 : j ≤ 20) : (lowRt (j : Int) (d : Int)).1.num * (d : Int) = (j : Int) * (lowRt (j : Int) (d : Int)).1.den := low_val (low_ok h (by omega) (by omega))
theorem fRow_mem2 {x : Rt} {d k : Nat} (h : x ∈ fRow d k) : ∃ j : Nat, j < k ∧ x = (lowRt (j : Int) (d : Int)).1 := fRow_mem h
theorem fRaw_mem2 {x : Rt} : ∀ {n : Nat}, x ∈ fRaw n → ∃ j d : Nat, j ≤ d ∧ 1 ≤ d ∧ d ≤ n ∧ x = (lowRt (j : Int) (d : Int)).1
  | 0, h => by rw [fRaw_zero] at h; cases h
  | n + 1, h => by
    rw [fRaw_succ] at h
    rcases List.mem_append.1 h with h | h
    · obtain ⟨j, d, h1, h2, h3, h4⟩ := fRaw_mem2 h
      exact ⟨j, d, h1, h2, by omega, h4⟩
    · obtain ⟨j, h1, h2⟩ := fRow_mem h
      exact ⟨j, n + 1, by omega, by omega, by omega, h2⟩
theorem fRow_in {d k j : Nat} (h : j < k) : (lowRt (j : Int) (d : Int)).1 ∈ fRow d k := by
  unfold fRow
  exact List.mem_map.2 ⟨j, List.mem_range.2 h, rfl⟩
theorem fRaw_in {j d : Nat} (h1 : j ≤ d) (h2 : 1 ≤ d) : ∀ {n : Nat}, d ≤ n → (lowRt (j : Int) (d : Int)).1 ∈ fRaw n
  | 0, h => by omega
  | n + 1, h => by
    rw [fRaw_succ]
    by_cases e : d = n + 1
    · subst e
      exact List.mem_append.2 (.inr (fRow_in (by omega)))
    · exact List.mem_append.2 (.inl (fRaw_in h1 h2 (by omega)))
theorem fa_mem1 {x : Rt} {n : Int} (hn : n ≤ 20) (h : x ∈ faL n) : goodRt x = true ∧ 0 ≤ x.num ∧ x.num ≤ x.den ∧ x.den ≤ n := by
  obtain ⟨j, d, h1, h2, h3, rfl⟩ := fRaw_mem2 (faL_mem h)
  have ok := low_ok (j := j) (d := d) h2 (by omega) (by omega)
  have b := low_bd ok
  have g := lowRt_good1 ok
  have v := low_val ok
  have hg := goodRt_iff.1 g
  generalize (lowRt (j : Int) (d : Int)).1 = x at *
  have hd : (0 : Int) < (d : Int) := by omega
  refine ⟨g, ?_, ?_, by omega⟩
  · have : 0 ≤ x.num * (d : Int) := by rw [v]; exact Int.mul_nonneg (by omega) (by omega)
    exact Int.nonneg_of_mul_nonneg_left this hd
  · have h5 : x.num * (d : Int) ≤ x.den * (d : Int) := by
      rw [v, Int.mul_comm x.den]
      exact Int.mul_le_mul_of_nonneg_right (by omega) (by omega)
    exact Int.le_of_mul_le_mul_right h5 hd
theorem fa_mem2 {p q : Nat} {n : Int} (hn : n ≤ 20) (h1 : p ≤ q) (h2 : 1 ≤ q) (h3 : (q : Int) ≤ n) (hg : goodRt ⟨p, q⟩ = true) : (⟨p, q⟩ : Rt) ∈ faL n := by
  unfold faL
  refine putsL_mem.2 (.inr ?_)
  have := fRaw_in h1 h2 (n := n.toNat) (by omega)
  rwa [lowRt_good hg] at this

/-- The inverse, by trying all. -/
theorem inv_all : ∀ b < 21, ∀ a < b, Nat.gcd a b = 1 → ∃ q < b + 1, (a * q + 1) % b = 0 := by decide +kernel

/-- The next fraction of small den. -/
theorem next_frac {x : Rt} {n : Int} (hn : n ≤ 20) (hx : goodRt x = true) (h0 : 0 ≤ x.num) (h1 : x.num < x.den) (h2 : x.den ≤ n) :
    ∃ p q : Nat, p ≤ q ∧ 1 ≤ q ∧ (q : Int) ≤ n ∧ n < x.den + q ∧ (p : Int) * x.den - x.num * q = 1 := by
  have hg := goodRt_iff.1 hx
  obtain ⟨a, ha⟩ : ∃ a : Nat, x.num = a := ⟨x.num.toNat, by omega⟩
  obtain ⟨b, hb⟩ : ∃ b : Nat, x.den = b := ⟨x.den.toNat, by omega⟩
  obtain ⟨m, hm⟩ : ∃ m : Nat, n = m := ⟨n.toNat, by omega⟩
  rw [ha, hb] at hg
  subst hm
  rw [ha, hb]
  rw [ha, hb] at h1
  rw [hb] at h2
  have hc : Nat.gcd a b = 1 := by
    have h5 := hg.2.2.2.2
    rw [show Int.gcd (a : Int) (b : Int) = Nat.gcd a b from rfl] at h5
    omega
  obtain ⟨q0, h3, h4⟩ := inv_all b (by omega) a (by omega) hc
  have hb0 : 0 < b := by omega
  -- the greatest of them up to m
  obtain ⟨q, hq1, hq2, hq3⟩ : ∃ q : Nat, q ≤ m ∧ m < b + q ∧ (a * q + 1) % b = 0 := by
    have key : ∀ t q : Nat, (a * q + 1) % b = 0 → q ≤ m → m - q ≤ t → ∃ q : Nat, q ≤ m ∧ m < b + q ∧ (a * q + 1) % b = 0 := by
      intro t
      induction t with
      | zero => intro q e1 e2 e3; exact ⟨q, e2, by omega, e1⟩
      | succ t ih =>
        intro q e1 e2 e3
        by_cases hlt : m < b + q
        · exact ⟨q, e2, hlt, e1⟩
        · refine ih (q + b) ?_ (by omega) (by omega)
          rw [Nat.mul_add, show a * q + a * b + 1 = a * q + 1 + a * b by omega, Nat.add_mul_mod_self_right]
          exact e1
    refine key m q0 h4 ?_ (by omega)
    omega
  have hq0 : 1 ≤ q := by
    rcases Nat.eq_zero_or_pos q with e | e
    · subst e
      omega
    · exact e
  obtain ⟨p, hp⟩ : ∃ p, a * q + 1 = b * p := ⟨(a * q + 1) / b, (Nat.mul_div_cancel' (Nat.dvd_of_mod_eq_zero hq3)).symm⟩
  refine ⟨p, q, ?_, hq0, by omega, by omega, ?_⟩
  · have h5 : b * p ≤ b * q := by
      rw [← hp]
      have : (a + 1) * q ≤ b * q := Nat.mul_le_mul_right q (by omega)
      rw [Nat.add_mul] at this
      omega
    exact Nat.le_of_mul_le_mul_left h5 hb0
  · have : ((b * p : Nat) : Int) = ((a * q + 1 : Nat) : Int) := by rw [hp]
    simp only [Int.natCast_mul, Int.natCast_add] at this
    rw [Int.mul_comm (p : Int)]
    omega
theorem cop_of_one {a b p q : Int} (h : p * b - a * q = 1) : (Int.gcd p q : Int) = 1 := by
  have h1 : (Int.gcd p q : Int) ∣ 1 := by
    rw [← h]
    exact Int.dvd_sub (Int.dvd_trans (Int.gcd_dvd_left ..) (Int.dvd_mul_right ..)) (Int.dvd_trans (Int.gcd_dvd_right ..) (Int.dvd_mul_left ..))
  have h2 : Int.gcd p q ∣ 1 := by exact_mod_cast h1
  have := Nat.dvd_one.1 h2
  omega

/-! neighbours in a list -/

theorem ss_lt {l : List Rt} (h : SS l) {i j : Nat} (hij : i < j) (hj : j < l.length) : qR (getA zR l i) < qR (getA zR l j) := by
  have := List.pairwise_iff_getElem.1 h i j (by omega) hj hij
  rw [getA_eq, getA_eq]
  simpa [List.getD_eq_getElem?_getD, List.getElem?_eq_getElem hj, List.getElem?_eq_getElem (show i < l.length by omega)] using this
theorem mem_getA {l : List Rt} {x : Rt} (h : x ∈ l) : ∃ k, k < l.length ∧ getA zR l k = x := by
  obtain ⟨k, hk, e⟩ := List.mem_iff_getElem.1 h
  exact ⟨k, hk, by rw [getA_eq]; simp [List.getD_eq_getElem?_getD, List.getElem?_eq_getElem hk, e]⟩
theorem far_next {n : Int} (hn : n ≤ 20) {i : Nat} (hi : i + 1 < (faL n).length) :
    risingRt (getA zR (faL n) i) (getA zR (faL n) (i + 1)) = true ∧ nearRt (getA zR (faL n) i) (getA zR (faL n) (i + 1)) = true ∧ n < (getA zR (faL n) i).den + (getA zR (faL n) (i + 1)).den := by
  have hs := faL_ss hn
  obtain ⟨gx, x0, x1, x2⟩ := fa_mem1 hn (getA_mem zR (show i < (faL n).length by omega))
  obtain ⟨gy, y0, y1, y2⟩ := fa_mem1 hn (getA_mem zR hi)
  have hxy := ss_lt hs (Nat.lt_succ_self i) hi
  have hlt := (q_lt gx gy).2 hxy
  have px := goodRt_iff.1 gx
  have py := goodRt_iff.1 gy
  -- the place behind
  have behind : ∀ z ∈ faL n, qR (getA zR (faL n) i) < qR z → qR (getA zR (faL n) (i + 1)) ≤ qR z := by
    intro z hz hlt
    obtain ⟨k, hk, rfl⟩ := mem_getA hz
    rcases Nat.lt_trichotomy k (i + 1) with h | h | h
    · exfalso
      rcases Nat.lt_or_ge k i with h2 | h2
      · have := ss_lt hs h2 (by omega)
        exact absurd hlt (by grind)
      · rw [show k = i by omega] at hlt
        exact absurd hlt (by grind)
    · rw [h]; grind
    · have := ss_lt hs h hk
      grind
  generalize getA zR (faL n) i = x at *
  generalize getA zR (faL n) (i + 1) = y at *
  have hx1 : x.num < x.den := by
    rcases Int.lt_or_le x.num x.den with h | h
    · exact h
    · exfalso
      have e : x.num = x.den := by omega
      rw [e, Int.mul_comm] at hlt
      have := Int.mul_le_mul_of_nonneg_right y1 (show 0 ≤ x.den by omega)
      rw [Int.mul_comm y.den] at this
      rw [Int.mul_comm y.den] at hlt
      omega
  obtain ⟨p, q, h1, h2, h3, h4, h5⟩ := next_frac hn gx x0 hx1 x2
  have gz : goodRt ⟨(p : Int), (q : Int)⟩ = true := goodRt_iff.2 ⟨by show (1 : Int) ≤ q; omega, by show (q : Int) ≤ 1000000000; omega, by show -1000000000 ≤ (p : Int); omega, by show (p : Int) ≤ 1000000000; omega, cop_of_one h5⟩
  have hz := fa_mem2 hn h1 h2 h3 gz
  have hxz : qR x < qR ⟨(p : Int), (q : Int)⟩ := (q_lt gx gz).1 (by show x.num * (q : Int) < (p : Int) * x.den; omega)
  have hyz := behind _ hz hxz
  -- it is that fraction
  have hle : y.num * (q : Int) ≤ (p : Int) * y.den := by
    rcases Int.lt_or_le ((p : Int) * y.den) (y.num * (q : Int)) with h | h
    · have := (q_lt gz gy).1 h
      exact absurd hyz (by grind)
    · exact h
  have hq0 : (0 : Int) < q := by omega
  have e1 : y.den = (q : Int) * (y.num * x.den - x.num * y.den) + x.den * ((p : Int) * y.den - y.num * q) := by
    have e2 : (q : Int) * (y.num * x.den - x.num * y.den) + x.den * ((p : Int) * y.den - y.num * q) = y.den * ((p : Int) * x.den - x.num * q) := by grind
    rw [e2, h5, Int.mul_one]
  have f1 : 1 ≤ y.num * x.den - x.num * y.den := by omega
  have hz2 : (p : Int) * y.den - y.num * q = 0 := by
    rcases Int.lt_or_le 0 ((p : Int) * y.den - y.num * q) with h | h
    · exfalso
      have g1 : (q : Int) * 1 ≤ (q : Int) * (y.num * x.den - x.num * y.den) := Int.mul_le_mul_of_nonneg_left f1 (by omega)
      have g2 : x.den * 1 ≤ x.den * ((p : Int) * y.den - y.num * q) := Int.mul_le_mul_of_nonneg_left (by omega) (by omega)
      omega
    · omega
  have ey : y = ⟨(p : Int), (q : Int)⟩ := good_eq gy gz (by show y.num * (q : Int) = (p : Int) * y.den; omega)
  subst ey
  refine ⟨?_, ?_, by show n < x.den + (q : Int); omega⟩
  · unfold risingRt lessRt
    rw [gx, gz, decide_eq_true hlt]; rfl
  · unfold nearRt
    exact decide_eq_true h5

theorem idxF_get {α : Type} {p : α → Bool} (d : α) {l : List α} {i : Nat} (h : idxF p l = (i : Int)) : i < l.length ∧ p (getA d l i) = true := by
  unfold idxF at h
  split at h
  · rename_i k hk
    obtain ⟨h1, h2, _⟩ := List.findIdx?_eq_some_iff_getElem.1 hk
    have : k = i := by omega
    subst this
    refine ⟨h1, ?_⟩
    rw [getA_eq]
    simpa [List.getD_eq_getElem?_getD, List.getElem?_eq_getElem h1] using h2
  · omega
theorem far_ok {x : Rt} {n : Int} (h : (fnRes x n).2.2 = true) : risingRt (fnRes x n).1 x = true ∧ nearRt (fnRes x n).1 x = true ∧ risingRt x (fnRes x n).2.1 = true ∧ nearRt x (fnRes x n).2.1 = true := by
  unfold fnRes at h ⊢
  split at h
  · rename_i hc
    simp only [Bool.and_eq_true, Bool.not_eq_true', Bool.or_eq_false_iff, decide_eq_false_iff_not] at hc
    obtain ⟨⟨h1, h2⟩, h3, h4⟩ := hc
    have hn := (inB_2 (n := n) h2)
    obtain ⟨i, hi⟩ : ∃ i : Nat, fnAt (faL n) x = i := ⟨(fnAt (faL n) x).toNat, by omega⟩
    obtain ⟨h5, h6⟩ := idxF_get zR (p := fun y => eqRt x y) (l := faL n) (i := i) hi
    have hx : x = getA zR (faL n) i := by simpa [eqRt] using h6
    rw [hi] at h3 h4 ⊢
    rw [show ((i : Int) - 1).toNat = i - 1 by omega, show ((i : Int) + 1).toNat = i + 1 by omega]
    have a1 := far_next hn (i := i - 1) (by omega)
    have a2 := far_next hn (i := i) (by omega)
    rw [show i - 1 + 1 = i by omega] at a1
    rw [← hx] at a1 a2
    exact ⟨a1.1, a1.2.1, a2.1, a2.2.1⟩
  · cases h

theorem cmp_lt {a b : Rt} (h : a.num * b.den < b.num * a.den) : cmpRt a b < 0 := by
  unfold cmpRt
  exact sgn_neg.2 (by omega)
theorem rising_iff {a b : Rt} : risingRt a b = true ↔ goodRt a = true ∧ goodRt b = true ∧ a.num * b.den < b.num * a.den := by
  unfold risingRt lessRt
  simp only [Bool.and_eq_true, decide_eq_true_eq, and_assoc]
theorem med_ok {c d : Rt} (h : (medRt c d).2 = true) : goodRt c = true ∧ goodRt d = true ∧ goodRt (medRt c d).1 = true ∧ risingRt c d = true ∧ risingRt c (medRt c d).1 = true ∧ risingRt (medRt c d).1 d = true := by
  cases hr : risingRt c d
  · rw [medRt_f hr] at h; cases h
  · by_cases h0 : c.num < 0
    · rw [medRt_f2 h0] at h; cases h
    · have e := medRt_t hr (show 0 ≤ c.num by omega)
      rw [e] at h ⊢
      obtain ⟨gc, gd, hlt⟩ := rising_iff.1 hr
      have gm := lowRt_good1 h
      have v := low_val h
      have pc := goodRt_iff.1 gc
      have pd := goodRt_iff.1 gd
      have pm := goodRt_iff.1 gm
      generalize (lowRt (c.num + d.num) (c.den + d.den)).1 = m at *
      have hs : 0 < c.den + d.den := by omega
      refine ⟨gc, gd, gm, rfl, rising_iff.2 ⟨gc, gm, ?_⟩, rising_iff.2 ⟨gm, gd, ?_⟩⟩
      · have h1 : c.num * (c.den + d.den) < (c.num + d.num) * c.den := by rw [Int.mul_add, Int.add_mul, Int.mul_comm c.num c.den]; omega
        have h2 : c.num * (c.den + d.den) * m.den < (c.num + d.num) * c.den * m.den := Int.mul_lt_mul_of_pos_right h1 (by omega)
        refine Int.lt_of_mul_lt_mul_right (a := c.den + d.den) ?_ (by omega)
        have e1 : c.num * m.den * (c.den + d.den) = c.num * (c.den + d.den) * m.den := by grind
        have e2 : m.num * c.den * (c.den + d.den) = (c.num + d.num) * c.den * m.den := by grind
        rw [e1, e2]; exact h2
      · have h1 : (c.num + d.num) * d.den < d.num * (c.den + d.den) := by rw [Int.mul_add, Int.add_mul]; omega
        have h2 : (c.num + d.num) * d.den * m.den < d.num * (c.den + d.den) * m.den := Int.mul_lt_mul_of_pos_right h1 (by omega)
        refine Int.lt_of_mul_lt_mul_right (a := c.den + d.den) ?_ (by omega)
        have e1 : m.num * d.den * (c.den + d.den) = (c.num + d.num) * d.den * m.den := by grind
        have e2 : d.num * m.den * (c.den + d.den) = d.num * (c.den + d.den) * m.den := by grind
        rw [e1, e2]; exact h2
theorem med_near {c d : Rt} (h : (medRt c d).2 = true) (hn : nearRt c d = true) : nearRt c (medRt c d).1 = true ∧ nearRt (medRt c d).1 d = true ∧ (medRt c d).1.den = c.den + d.den := by
  have hn : d.num * c.den - c.num * d.den = 1 := by simpa [nearRt] using hn
  cases hr : risingRt c d
  · rw [medRt_f hr] at h; cases h
  · by_cases h0 : c.num < 0
    · rw [medRt_f2 h0] at h; cases h
    · have e := medRt_t hr (show 0 ≤ c.num by omega)
      rw [e] at h ⊢
      obtain ⟨gc, gd, hlt⟩ := rising_iff.1 hr
      have pc := goodRt_iff.1 gc
      have pd := goodRt_iff.1 gd
      have hc : (Int.gcd (c.num + d.num) (c.den + d.den) : Int) = 1 := cop_of_one (a := c.num) (b := c.den) (by rw [Int.add_mul, Int.mul_add]; omega)
      have hg1 : gsgn (c.num + d.num) (c.den + d.den) = 1 := gsgn_one (by omega) hc
      have hm : (lowRt (c.num + d.num) (c.den + d.den)).1 = ⟨c.num + d.num, c.den + d.den⟩ := by
        cases hg : goodRt ⟨(c.num + d.num).tdiv (gsgn (c.num + d.num) (c.den + d.den)), (c.den + d.den).tdiv (gsgn (c.num + d.num) (c.den + d.den))⟩ with
        | false => rw [lowRt_f hg] at h; cases h
        | true => rw [lowRt_t hg, hg1]; simp [Int.tdiv_one]
      rw [hm]
      refine ⟨?_, ?_, rfl⟩
      · unfold nearRt; exact decide_eq_true (by show (c.num + d.num) * c.den - c.num * (c.den + d.den) = 1; rw [Int.add_mul, Int.mul_add]; omega)
      · unfold nearRt; exact decide_eq_true (by show d.num * (c.den + d.den) - (c.num + d.num) * d.den = 1; rw [Int.add_mul, Int.mul_add]; omega)
theorem sbt_ok {u v : Rt} (h : (sbtRes u v).2 = true) : goodRt u = true ∧ goodRt v = true ∧ goodRt (sbtRes u v).1 = true ∧ cmpRt u (sbtRes u v).1 < 0 ∧ cmpRt (sbtRes u v).1 v < 0 ∧ (sbtRes u v).1.den ≤ 1000 := by
  unfold sbtRes at h ⊢
  split at h
  · rename_i hu
    unfold unitsRt at hu
    simp only [Bool.and_eq_true] at hu
    obtain ⟨h1, h2, h3⟩ := hu
    unfold sbRes at h ⊢
    split at h
    · rename_i i hi
      have g := sb_good h1 h2 hi
      have hgt := sbNum_gt (unitRt_iff.1 h1).1 ((i : Int) + 1)
      have hi' := hi
      unfold sbFind at hi'
      rw [List.find?_eq_some_iff_getElem] at hi'
      obtain ⟨hok, j, hj, hji, _⟩ := hi'
      simp at hji hj
      subst hji
      have hok : sbNum u ((j : Int) + 1) * v.den < v.num * ((j : Int) + 1) := by simpa [sbOk] using hok
      exact ⟨(unitRt_iff.1 h1).1, (unitRt_iff.1 h2).1, g, cmp_lt hgt, cmp_lt hok, by show (j : Int) + 1 ≤ 1000; omega⟩
    · cases h
  · cases h
theorem fl_ok {n : Int} (h : (flRes n).2 = true) : inB n 1 20 = true ∧ (flRes n).1 = faL n := by
  unfold flRes at h ⊢
  split at h
  · rename_i h1; exact ⟨h1, rfl⟩
  · cases h
theorem fl_in {n : Int} (h : inB n 1 20 = true) : (flRes n).1 = faL n ∧ (flRes n).2 = true := by unfold flRes; rw [h]; exact ⟨rfl, rfl⟩

theorem ba_min {x : Rt} : ∀ (m : Nat) (l : List Rt), l.length = m → (∀ y ∈ l, 0 < y.den) → 0 < (baF x l).den ∧ (baF x l ∈ l ∨ baF x l = ⟨0, 1⟩) ∧ ∀ z ∈ l, apN x (baF x l) * z.den ≤ apN x z * (baF x l).den
  | 0, l, h, _ => by
    have : l = [] := List.eq_nil_of_length_eq_zero h
    subst this
    rw [baF_nil]
    exact ⟨by decide, .inr rfl, fun z hz => by cases hz⟩
  | m + 1, l, h, hp => by
    rcases List.eq_nil_or_concat l with e | ⟨l', y, e⟩
    · subst e; cases h
    · rw [List.concat_eq_append] at e
      subst e
      obtain ⟨h1, h2, h3⟩ := ba_min (x := x) m l' (by simpa using h) (fun z hz => hp z (List.mem_append.2 (.inl hz)))
      have hy := hp y (by simp)
      rw [baF_one]
      generalize baF x l' = b at *
      by_cases hlt : apN x y * b.den < apN x b * y.den
      · rw [baStep_t hlt]
        refine ⟨hy, .inl (by simp), fun z hz => ?_⟩
        rcases List.mem_append.1 hz with hz | hz
        · have hzd := hp z (List.mem_append.2 (.inl hz))
          have g1 := h3 z hz
          have g2 : apN x y * b.den * z.den ≤ apN x b * y.den * z.den := Int.mul_le_mul_of_nonneg_right (by omega) (by omega)
          have g3 : apN x b * z.den * y.den ≤ apN x z * b.den * y.den := Int.mul_le_mul_of_nonneg_right g1 (by omega)
          refine Int.le_of_mul_le_mul_right (a := b.den) ?_ h1
          have e1 : apN x y * z.den * b.den = apN x y * b.den * z.den := by grind
          have e2 : apN x z * y.den * b.den = apN x z * b.den * y.den := by grind
          have e3 : apN x b * y.den * z.den = apN x b * z.den * y.den := by grind
          rw [e1, e2]
          omega
        · simp at hz
          subst hz
          exact Int.le_refl _
      · rw [baStep_f hlt]
        refine ⟨h1, h2.imp (fun h => List.mem_append.2 (.inl h)) id, fun z hz => ?_⟩
        rcases List.mem_append.1 hz with hz | hz
        · exact h3 z hz
        · simp at hz
          subst hz
          omega
theorem ba_ok {y : Rt} {n : Int} (h : (baRes y n).2 = true) : unitRt y = true ∧ inB n 1 20 = true ∧ (baRes y n).1 ∈ faL n ∧ tiny (baRes y n).1 ∧ ∀ z ∈ faL n, ¬ (apN y z * (baRes y n).1.den < apN y (baRes y n).1 * z.den) := by
  unfold baRes at h ⊢
  split at h
  · rename_i hc
    simp only [Bool.and_eq_true] at hc
    obtain ⟨h1, h2⟩ := hc
    have hn := inB_2 h2
    have ht : ∀ z ∈ faL n, tiny z := fun z hz => faL_tiny hn hz
    have hm := ba_min (x := y) _ (faL n) rfl (fun z hz => by have := (goodRt_iff.1 (ht z hz).1).1; omega)
    have hin : baF y (faL n) ∈ faL n := by
      rcases hm.2.1 with h | h
      · exact h
      · rw [h]; exact faL_zero (inB_1 h2) hn
    exact ⟨h1, h2, hin, ht _ hin, fun z hz => by
      have := hm.2.2 z hz
      show ¬ (apN y z * (baF y (faL n)).den < apN y (baF y (faL n)) * z.den)
      omega⟩
  · cases h
theorem fa_ends {n : Int} (h : inB n 1 20 = true) : 2 ≤ (faL n).length ∧ getA zR (faL n) 0 = ⟨0, 1⟩ ∧ getA zR (faL n) ((faL n).length - 1) = ⟨1, 1⟩ := by
  have h1 := inB_1 h
  have h2 := inB_2 h
  have hz := faL_zero h1 h2
  have ho : (⟨1, 1⟩ : Rt) ∈ faL n := fa_mem2 (p := 1) (q := 1) h2 (by omega) (by omega) (by omega) good_one
  have hs := faL_ss h2
  obtain ⟨i, hi, ei⟩ := mem_getA hz
  obtain ⟨j, hj, ej⟩ := mem_getA ho
  have hij : i ≠ j := by
    intro e
    rw [e, ej] at ei
    exact absurd ei (by decide)
  refine ⟨by omega, faL_head h1 h2, ?_⟩
  rcases Nat.lt_or_ge j ((faL n).length - 1) with h3 | h3
  · exfalso
    have h4 := ss_lt hs h3 (by omega)
    obtain ⟨g, _, g2, _⟩ := fa_mem1 h2 (getA_mem zR (show (faL n).length - 1 < (faL n).length by omega))
    rw [ej] at h4
    have := (q_lt good_one g).2 h4
    dsimp only at this
    omega
  · rw [show (faL n).length - 1 = j by omega]; exact ej

/-! in the shapes that the law asks for -/

theorem eqRt_self (a : Rt) : eqRt a a = true := decide_eq_true rfl
theorem rising_cmp {a b : Rt} (h : risingRt a b = true) : decide (0 ≤ cmpRt a b) = false := decide_eq_false (by have := cmp_lt (rising_iff.1 h).2.2; omega)
theorem med_cmp {c d : Rt} (h : (medRt c d).2 = true) : decide (0 ≤ cmpRt c (medRt c d).1) = false ∧ decide (0 ≤ cmpRt (medRt c d).1 d) = false :=
  ⟨rising_cmp (med_ok h).2.2.2.2.1, rising_cmp (med_ok h).2.2.2.2.2⟩
theorem med_near2 {c d : Rt} (h : (medRt c d).2 = true) (hn : (risingRt c d && nearRt c d) = true) : nearRt c (medRt c d).1 = true ∧ nearRt (medRt c d).1 d = true ∧ ((medRt c d).1.den != c.den + d.den) = false := by
  have := med_near h (by rw [Bool.and_eq_true] at hn; exact hn.2)
  exact ⟨this.1, this.2.1, by simp [this.2.2]⟩
theorem den_lo {c d : Rt} (h : goodRt c = true) (h2 : goodRt d = true) : -9223372036854775808 ≤ c.den + d.den := by have := goodRt_iff.1 h; have := goodRt_iff.1 h2; omega
theorem den_hi {c d : Rt} (h : goodRt c = true) (h2 : goodRt d = true) : c.den + d.den ≤ 9223372036854775807 := by have := goodRt_iff.1 h; have := goodRt_iff.1 h2; omega
theorem sbt_cmp {u v : Rt} (h : (sbtRes u v).2 = true) : decide (0 ≤ cmpRt u (sbtRes u v).1) = false ∧ decide (0 ≤ cmpRt (sbtRes u v).1 v) = false ∧ decide (1000 < (sbtRes u v).1.den) = false := by
  obtain ⟨_, _, _, h1, h2, h3⟩ := sbt_ok h
  exact ⟨decide_eq_false (by omega), decide_eq_false (by omega), decide_eq_false (by omega)⟩
theorem ba_any {y : Rt} {n : Int} (h : (baRes y n).2 = true) : (flRes n).2 = true ∧ ((flRes n).1.any fun z => eqRt (baRes y n).1 z) = true := by
  obtain ⟨_, h2, h3, _⟩ := ba_ok h
  have e := fl_in h2
  refine ⟨e.2, ?_⟩
  rw [e.1]
  exact List.any_eq_true.2 ⟨_, h3, eqRt_self _⟩

theorem tm {y z : Rt} (hy : goodRt y = true) (hz : tiny z) : (-20000000000 ≤ y.num * z.den ∧ y.num * z.den ≤ 20000000000) ∧ (-20000000000 ≤ z.num * y.den ∧ z.num * y.den ≤ 20000000000) := tiny_mul (a := y.num) (b := y.den) hy hz
theorem bn1 {y z : Rt} (hy : goodRt y = true) (hz : tiny z) : -9223372036854775808 ≤ y.num * z.den := by have := tm hy hz; omega
theorem bn2 {y z : Rt} (hy : goodRt y = true) (hz : tiny z) : y.num * z.den ≤ 9223372036854775807 := by have := tm hy hz; omega
theorem bn3 {y z : Rt} (hy : goodRt y = true) (hz : tiny z) : -9223372036854775808 ≤ z.num * y.den := by have := tm hy hz; omega
theorem bn4 {y z : Rt} (hy : goodRt y = true) (hz : tiny z) : z.num * y.den ≤ 9223372036854775807 := by have := tm hy hz; omega
theorem bn5 {y z : Rt} (hy : goodRt y = true) (hz : tiny z) : -9223372036854775808 ≤ y.num * z.den - z.num * y.den := by have := tm hy hz; omega
theorem bn6 {y z : Rt} (hy : goodRt y = true) (hz : tiny z) : y.num * z.den - z.num * y.den ≤ 9223372036854775807 := by have := tm hy hz; omega
theorem bn7 {y z : Rt} (hy : goodRt y = true) (hz : tiny z) : -9223372036854775808 < y.num * z.den - z.num * y.den := by have := tm hy hz; omega
theorem fa_tiny {n : Int} {i : Nat} (h : inB n 1 20 = true) (hi : i < (flRes n).1.length) : tiny (getA VK.rat.dflt (flRes n).1 i) ∧ getA VK.rat.dflt (flRes n).1 i ∈ faL n := by
  have e := (fl_in h).1
  rw [e] at hi ⊢
  have hm := getA_mem VK.rat.dflt hi
  exact ⟨faL_tiny (inB_2 h) hm, hm⟩
theorem fl_next {n : Int} (h : (flRes n).2 = true) {i : Nat} (hi : i + 1 < (flRes n).1.length) :
    risingRt (getA VK.rat.dflt (flRes n).1 i) (getA VK.rat.dflt (flRes n).1 (i + 1)) = true ∧ nearRt (getA VK.rat.dflt (flRes n).1 i) (getA VK.rat.dflt (flRes n).1 (i + 1)) = true ∧
      n < (getA VK.rat.dflt (flRes n).1 i).den + (getA VK.rat.dflt (flRes n).1 (i + 1)).den ∧ -9223372036854775808 ≤ (getA VK.rat.dflt (flRes n).1 i).den + (getA VK.rat.dflt (flRes n).1 (i + 1)).den ∧
      (getA VK.rat.dflt (flRes n).1 i).den + (getA VK.rat.dflt (flRes n).1 (i + 1)).den ≤ 9223372036854775807 := by
  obtain ⟨h1, e⟩ := fl_ok h
  rw [e] at hi ⊢
  have := far_next (inB_2 h1) hi
  obtain ⟨g1, g2, _⟩ := rising_iff.1 this.1
  exact ⟨this.1, this.2.1, this.2.2, den_lo g1 g2, den_hi g1 g2⟩
theorem fl_ends {n : Int} (h : (flRes n).2 = true) : 2 ≤ (flRes n).1.length ∧ getA VK.rat.dflt (flRes n).1 0 = ⟨0, 1⟩ ∧ getA VK.rat.dflt (flRes n).1 ((flRes n).1.length - 1) = ⟨1, 1⟩ := by
  obtain ⟨h1, e⟩ := fl_ok h
  rw [e]
  exact fa_ends h1
theorem fl_next2 {n : Int} (h : (flRes n).2 = true) {i k : Nat} (hk : k = i + 1) (hi : k < (flRes n).1.length) :
    risingRt (getA VK.rat.dflt (flRes n).1 i) (getA VK.rat.dflt (flRes n).1 k) = true ∧ nearRt (getA VK.rat.dflt (flRes n).1 i) (getA VK.rat.dflt (flRes n).1 k) = true ∧
      n < (getA VK.rat.dflt (flRes n).1 i).den + (getA VK.rat.dflt (flRes n).1 k).den ∧ -9223372036854775808 ≤ (getA VK.rat.dflt (flRes n).1 i).den + (getA VK.rat.dflt (flRes n).1 k).den ∧
      (getA VK.rat.dflt (flRes n).1 i).den + (getA VK.rat.dflt (flRes n).1 k).den ≤ 9223372036854775807 := by
  subst hk
  exact fl_next h hi
theorem fl_end0 {n : Int} (h : (flRes n).2 = true) {i : Nat} (hi : i = 0) : eqRt (getA VK.rat.dflt (flRes n).1 i) ⟨0, 1⟩ = true := by
  subst hi; rw [(fl_ends h).2.1]; exact eqRt_self _
theorem fl_end1 {n : Int} (h : (flRes n).2 = true) {i : Nat} (hi : i = (flRes n).1.length - 1) : eqRt (getA VK.rat.dflt (flRes n).1 i) ⟨1, 1⟩ = true := by
  subst hi; rw [(fl_ends h).2.2]; exact eqRt_self _
theorem apx_lo {x y b : Rt} (hx : goodRt x = true) (hy : tiny y) (hb : tiny b) : -9223372036854775808 ≤ ((x.num * y.den - y.num * x.den).natAbs : Int) * b.den := ap_lo hx hy hb
theorem apx_hi {x y b : Rt} (hx : goodRt x = true) (hy : tiny y) (hb : tiny b) : ((x.num * y.den - y.num * x.den).natAbs : Int) * b.den ≤ 9223372036854775807 := ap_hi hx hy hb
theorem nx_absurd {x y : Rt} {n : Int} (q1 : risingRt x y = true) (q2 : nearRt x y = true) (q3 : n < x.den + y.den)
    (h : (bif (bif !risingRt x y then true else !(risingRt x y && nearRt x y)) then true else decide (x.den + y.den ≤ n)) = true) : False := by
  rw [q1, q2] at h
  simp at h
  omega
theorem nx_a {x y : Rt} (q1 : risingRt x y = true) (h : (!risingRt x y) = true) : False := by rw [q1] at h; cases h
theorem nx_b {x y : Rt} (q1 : risingRt x y = true) (q2 : nearRt x y = true) (h : (bif !risingRt x y then true else !(risingRt x y && nearRt x y)) = true) : False := by rw [q1, q2] at h; cases h
end Go.Vx
