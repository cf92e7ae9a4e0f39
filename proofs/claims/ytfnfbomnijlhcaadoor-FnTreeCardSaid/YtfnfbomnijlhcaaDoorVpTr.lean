/- The tree of fractions: paths and continued fractions lead back. -/
import Derived.Test.YtfnfbomnijlhcaaDoorVpFp
import Derived.Test.YtfnfbomnijlhcaaDoorVpRat
import Derived.Test.YtfnfbomnijlhcaaDoorVpCf
namespace Go.Vx
open Go
set_option maxRecDepth 100000
set_option linter.unusedSimpArgs false
set_option linter.unusedVariables false

/-! paths -/

theorem PI.wi {x : Rt} {a b : Int} {p : Pt} (hx : goodRt x = true) (h : PI x a b p) : WI p := by
  have := h.bd
  rw [goodRt_iff] at hx
  exact ⟨h.det, h.xn, h.xd, h.yn, h.yd, by omega, by omega⟩
theorem pth_fp {x : Rt} (hx : goodRt x = true) : ∀ (k : Nat) {a b : Int} {p : Pt} {s : List UInt8}, PI x a b p → (pthF k a b s).2 = true → ∃ t, (pthF k a b s).1 = s ++ t ∧ t.length ≤ k ∧ fpG t p = (x, true) := by
  intro k
  induction k with
  | zero =>
    intro a b p s h hk
    by_cases he : a = b
    · rw [pthF_end 0 s he]
      exact ⟨[], by simp, by simp, by rw [fpG_nil, h.here.2 he]⟩
    · rw [pthF_out s he] at hk; cases hk
  | succ k ih =>
    intro a b p s h hk
    by_cases he : a = b
    · rw [pthF_end (k + 1) s he]
      exact ⟨[], by simp, by simp, by rw [fpG_nil, h.here.2 he]⟩
    · by_cases hl : a < b
      · have h2 := h.left hl
        rw [pthF_l k s he hl] at hk ⊢
        obtain ⟨t, t1, t2, t3⟩ := ih h2 hk
        refine ⟨76 :: t, by rw [t1]; simp, by simp; omega, ?_⟩
        rw [fpG_step t p (.inl rfl) (b := true) (by decide) (h2.wi hx).goodHere]
        exact t3
      · have h2 := h.right he hl
        rw [pthF_r k s he hl] at hk ⊢
        obtain ⟨t, t1, t2, t3⟩ := ih h2 hk
        refine ⟨82 :: t, by rw [t1]; simp, by simp; omega, ?_⟩
        rw [fpG_step t p (.inr rfl) (b := false) (by decide) (h2.wi hx).goodHere]
        exact t3
theorem path_back {x : Rt} (h : (ptRes x).2 = true) : fpRes (bA (ptRes x).1) = (x, true) ∧ (bA (ptRes x).1).size ≤ 60 := by
  cases hg : goodRt x with
  | false => rw [ptRes_f1 hg] at h; cases h
  | true =>
    by_cases hn : 0 < x.num
    · rw [ptRes_t hg hn] at h ⊢
      obtain ⟨t, t1, t2, t3⟩ := pth_fp hg 60 (PI.start hg hn) h
      rw [t1, List.nil_append]
      have hs : (bA t).size ≤ 60 := by rw [bA_size]; exact t2
      refine ⟨?_, hs⟩
      rw [fpRes_t hs, show (bA t).data.toList = t by rw [bA_eq]]
      exact t3
    · rw [ptRes_f2 hn] at h; cases h
theorem fp_pth {x : Rt} : ∀ (t : List UInt8) {p : Pt}, WI p → fpG t p = (x, true) → ∃ a b, PI x a b p ∧ ∀ k s, t.length ≤ k → pthF k a b s = (s ++ t, true) := by
  intro t
  induction t with
  | nil =>
    intro p hw h
    rw [fpG_nil] at h
    have hx : x = hereP p := by injection h with h1 _; exact h1.symm
    refine ⟨1, 1, ⟨?_, ?_, hw.det, by omega, by omega, by decide, hw.xn, hw.xd, hw.yn, hw.yd⟩, fun k s _ => ?_⟩
    · rw [hx]; show p.x.num + p.y.num = _; omega
    · rw [hx]; show p.x.den + p.y.den = _; omega
    · rw [pthF_end k s rfl, List.append_nil]
  | cons c r ih =>
    intro p hw h
    by_cases hc : c = 76 ∨ c = 82
    · cases hg : goodRt (hereP (turnP p (decide (c = 76)))) with
      | false => rw [fpG_stop r p rfl hg] at h; cases h
      | true =>
        rw [fpG_step r p hc rfl hg] at h
        obtain ⟨a, b, h2, h3⟩ := ih (hw.turn hg) h
        have n := h2.n; have d := h2.d; have ha := h2.ha; have hb := h2.hb; have hgc := h2.g
        rcases hc with rfl | rfl
        · have n : x.num = a * (p.x.num + p.y.num) + b * p.x.num := n
          have d : x.den = a * (p.x.den + p.y.den) + b * p.x.den := d
          refine ⟨a, a + b, ⟨by grind, by grind, hw.det, ha, by omega, ?_, hw.xn, hw.xd, hw.yn, hw.yd⟩, fun k s hk => ?_⟩
          · rw [← hgc, Int.add_comm, Int.gcd_add_self_right]
          · obtain ⟨m, rfl⟩ : ∃ m, k = m + 1 := ⟨k - 1, by simp only [List.length_cons] at hk; omega⟩
            rw [pthF_l m s (by omega) (by omega), show a + b - a = b by omega, h3 m (s ++ [76]) (by simp only [List.length_cons] at hk; omega)]
            simp
        · have n : x.num = a * p.y.num + b * (p.x.num + p.y.num) := n
          have d : x.den = a * p.y.den + b * (p.x.den + p.y.den) := d
          refine ⟨a + b, b, ⟨by grind, by grind, hw.det, by omega, hb, ?_, hw.xn, hw.xd, hw.yn, hw.yd⟩, fun k s hk => ?_⟩
          · rw [← hgc, Int.gcd_add_self_left]
          · obtain ⟨m, rfl⟩ : ∃ m, k = m + 1 := ⟨k - 1, by simp only [List.length_cons] at hk; omega⟩
            rw [pthF_r m s (by omega) (by omega), show a + b - b = a by omega, h3 m (s ++ [82]) (by simp only [List.length_cons] at hk; omega)]
            simp
    · rw [fpG_bad r p (fun h => hc (.inl h)) (fun h => hc (.inr h))] at h; cases h
theorem fp_good {x : Rt} : ∀ (t : List UInt8) {p : Pt}, WI p → fpG t p = (x, true) → goodRt x = true := by
  intro t
  induction t with
  | nil =>
    intro p hw h
    rw [fpG_nil] at h
    injection h with h1 _
    rw [← h1]; exact hw.goodHere
  | cons c r ih =>
    intro p hw h
    by_cases hc : c = 76 ∨ c = 82
    · cases hg : goodRt (hereP (turnP p (decide (c = 76)))) with
      | false => rw [fpG_stop r p rfl hg] at h; cases h
      | true => rw [fpG_step r p hc rfl hg] at h; exact ih (hw.turn hg) h
    · rw [fpG_bad r p (fun h => hc (.inl h)) (fun h => hc (.inr h))] at h; cases h
theorem follow_back {s : ByteArray} (h : (fpRes s).2 = true) : (ptRes (fpRes s).1).2 = true ∧ bA (ptRes (fpRes s).1).1 = s := by
  by_cases hs : s.size ≤ 60
  · rw [fpRes_t hs] at h ⊢
    have h2 : fpG s.data.toList ⟨⟨0, 1⟩, ⟨1, 0⟩⟩ = ((fpG s.data.toList ⟨⟨0, 1⟩, ⟨1, 0⟩⟩).1, true) := Prod.ext rfl h
    obtain ⟨a, b, p1, p2⟩ := fp_pth _ WI.start h2
    have hg := fp_good _ WI.start h2
    have n := p1.n; have d := p1.d
    dsimp only at n d
    have hn : 0 < (fpG s.data.toList ⟨⟨0, 1⟩, ⟨1, 0⟩⟩).1.num := by have := p1.ha; omega
    have hl : s.data.toList.length ≤ 60 := by simpa using hs
    have p3 := p2 60 [] hl
    rw [show a = (fpG s.data.toList ⟨⟨0, 1⟩, ⟨1, 0⟩⟩).1.num by omega, show b = (fpG s.data.toList ⟨⟨0, 1⟩, ⟨1, 0⟩⟩).1.den by omega] at p3
    rw [ptRes_t hg hn, p3]
    refine ⟨rfl, ?_⟩
    rw [List.nil_append, bA_eq]
  · rw [fpRes_f hs] at h; cases h

/-! continued fractions -/

/-- numerator and denominator of what the numbers are together -/
def cP : List Int → Int × Int
  | [] => (1, 0)
  | a :: r => (a * (cP r).1 + (cP r).2, (cP r).1)
theorem cP_pos : ∀ {r : List Int}, (∀ n ∈ r, 1 ≤ n) → 1 ≤ (cP r).1 ∧ 0 ≤ (cP r).2
  | [], _ => by decide
  | a :: r, h => by
    have h1 := cP_pos (r := r) fun n hn => h n (List.mem_cons_of_mem _ hn)
    have ha := h a List.mem_cons_self
    have := Int.mul_le_mul ha h1.1 (by omega) (by omega)
    simp only [cP]
    omega
theorem cP_gcd : ∀ (l : List Int), Int.gcd (cP l).1 (cP l).2 = 1
  | [] => by decide
  | a :: r => by
    have h := cP_gcd r
    simp only [cP]
    rw [Int.mul_comm, Int.gcd_mul_left_add_left, Int.gcd_comm]
    exact h
theorem lowRt_cop {n d : Int} (hg : Int.gcd n d = 1) (hd : 0 < d) (h : (lowRt n d).2 = true) : (lowRt n d).1 = ⟨n, d⟩ := by
  have e : gsgn n d = 1 := by unfold gsgn; rw [if_neg (by omega), hg]; rfl
  unfold lowRt at h ⊢
  rw [e, Int.tdiv_one, Int.tdiv_one] at h ⊢
  split at h
  · rfl
  · cases h
theorem fcR_val : ∀ {l : List Int}, l ≠ [] → (∀ n ∈ l.drop 1, 1 ≤ n) → (fcR l).2 = true → (fcR l).1 = ⟨(cP l).1, (cP l).2⟩
  | [], h, _, _ => (h rfl).elim
  | [a], _, _, _ => by simp [fcR, cP]
  | a :: b :: r, _, hp, h => by
    have hp : ∀ n ∈ b :: r, 1 ≤ n := hp
    have hne : b :: r ≠ [] := by simp
    cases h1 : (fcR (b :: r)).2 with
    | false => rw [fcR_cons_bad hne h1] at h; cases h
    | true =>
      have ih := fcR_val hne (fun n hn => hp n (List.mem_of_mem_drop hn)) h1
      have e1 : fcR (b :: r) = (⟨(cP (b :: r)).1, (cP (b :: r)).2⟩, true) := Prod.ext ih h1
      have h0 := cP_pos hp
      cases h2 : (divRt ⟨1, 1⟩ ⟨(cP (b :: r)).1, (cP (b :: r)).2⟩).2 with
      | false => rw [fcR_div hne e1 h2] at h; cases h
      | true =>
        have e2 : (divRt ⟨1, 1⟩ ⟨(cP (b :: r)).1, (cP (b :: r)).2⟩).1 = ⟨(cP (b :: r)).2, (cP (b :: r)).1⟩ := by
          unfold divRt at h2 ⊢
          simp only [Int.one_mul] at h2 ⊢
          exact lowRt_cop (by rw [Int.gcd_comm]; exact cP_gcd _) (by omega) h2
        rw [fcR_add hne e1 h2, e2] at h ⊢
        unfold addRt at h ⊢
        simp only [Int.mul_one, Int.one_mul] at h ⊢
        have := lowRt_cop (by have := cP_gcd (a :: b :: r); simpa only [cP] using this) (by omega) h
        rw [this]
        rfl
theorem cf_cP : ∀ {l : List Int}, l ≠ [] → (∀ n ∈ l.drop 1, 1 ≤ n) → (∀ h : l ≠ [], 1 < l.length → l.getLast h ≠ 1) → cf (cP l).1 (cP l).2 = l
  | [], h, _, _ => (h rfl).elim
  | [a], _, _, _ => by
    simp only [cP, Int.mul_one, Int.add_zero]
    rw [cf_pos (by decide), Int.emod_one, cf_zero, Int.ediv_one]
  | a :: b :: r, _, hp, hl => by
    have hp : ∀ n ∈ b :: r, 1 ≤ n := hp
    have hb := hp b List.mem_cons_self
    have h0 := cP_pos hp
    have h1 := cP_pos (r := r) fun n hn => hp n (List.mem_cons_of_mem _ hn)
    have hlast := hl (by simp) (by simp)
    have hlt : (cP (b :: r)).2 < (cP (b :: r)).1 := by
      simp only [cP]
      cases r with
      | nil =>
        simp only [cP]
        have : b ≠ 1 := by simpa using hlast
        omega
      | cons c r =>
        have hr := cP_pos (r := r) fun n hn => hp n (List.mem_cons_of_mem _ (List.mem_cons_of_mem _ hn))
        have := Int.mul_le_mul hb (Int.le_refl (cP (c :: r)).1) (by omega) (by omega)
        have e : (cP (c :: r)).2 = (cP r).1 := rfl
        omega
    have ih := cf_cP (l := b :: r) (by simp) (fun n hn => hp n (List.mem_of_mem_drop hn)) (fun h h2 => by
      have := hlast
      rw [List.getLast_cons (by simp)] at this
      exact this)
    show cf (a * (cP (b :: r)).1 + (cP (b :: r)).2) (cP (b :: r)).1 = _
    have e1 : (a * (cP (b :: r)).1 + (cP (b :: r)).2) / (cP (b :: r)).1 = a := by
      rw [Int.mul_comm, Int.add_comm, Int.add_mul_ediv_left _ _ (by omega), Int.ediv_eq_zero_of_lt h0.2 hlt, Int.zero_add]
    have e2 : (a * (cP (b :: r)).1 + (cP (b :: r)).2) % (cP (b :: r)).1 = (cP (b :: r)).2 := by
      rw [Int.mul_comm, Int.add_comm, Int.add_mul_emod_self_left, Int.emod_eq_of_lt h0.2 hlt]
    rw [cf_pos (by omega), e1, e2, ih]
theorem cP_cf : ∀ (k : Nat) {n d : Int}, d.toNat ≤ k → 0 ≤ d → Int.gcd n d = 1 → (d = 0 → n = 1) → cP (cf n d) = (n, d) := by
  intro k
  induction k with
  | zero =>
    intro n d hk h0 hg h1
    have : d = 0 := by omega
    subst this
    rw [cf_zero, h1 rfl]; rfl
  | succ k ih =>
    intro n d hk h0 hg h1
    by_cases hd : d = 0
    · subst hd; rw [cf_zero, h1 rfl]; rfl
    · have hp : 0 < d := by omega
      have m0 := Int.emod_nonneg n hd
      have m1 := Int.emod_lt_of_pos n hp
      have hg2 : Int.gcd d (n % d) = 1 := by rw [← hg, Int.gcd_comm n d, Int.emod_def, Int.gcd_sub_mul_left_right]
      rw [cf_pos hp]
      simp only [cP]
      rw [ih (n := d) (d := n % d) (by omega) m0 hg2 (fun e => by rw [e, Int.gcd_zero_right] at hg2; omega)]
      have := Int.emod_add_mul_ediv n d
      rw [Int.mul_comm] at this
      simp only [Prod.mk.injEq, and_true]
      omega
theorem cf_ones : ∀ (k : Nat) {d m : Int}, m.toNat ≤ k → 0 ≤ m → m < d → (∀ x ∈ cf d m, 1 ≤ x) ∧ (∀ h : cf d m ≠ [], 2 ≤ (cf d m).getLast h) := by
  intro k
  induction k with
  | zero =>
    intro d m hk h0 h1
    have : m = 0 := by omega
    subst this
    rw [cf_zero]
    exact ⟨fun x hx => (by cases hx), fun h => (h rfl).elim⟩
  | succ k ih =>
    intro d m hk h0 h1
    by_cases hm : m = 0
    · subst hm; rw [cf_zero]; exact ⟨fun x hx => (by cases hx), fun h => (h rfl).elim⟩
    · have hp : 0 < m := by omega
      have m0 := Int.emod_nonneg d hm
      have m1 := Int.emod_lt_of_pos d hp
      have hq : 1 ≤ d / m := by
        rw [Int.le_ediv_iff_mul_le hp]; omega
      obtain ⟨i1, i2⟩ := ih (d := m) (m := d % m) (by omega) m0 m1
      rw [cf_pos hp]
      refine ⟨fun x hx => ?_, fun h => ?_⟩
      · rcases List.mem_cons.1 hx with rfl | hx
        · exact hq
        · exact i1 x hx
      · by_cases hz : d % m = 0
        · have e : cf m (d % m) = [] := by rw [hz, cf_zero]
          simp only [e, List.getLast_singleton]
          have := Int.emod_add_mul_ediv d m
          rw [hz, Int.zero_add] at this
          apply Classical.byContradiction
          intro hc
          have : d / m = 1 := by omega
          simp_all
        · have hne : cf m (d % m) ≠ [] := by rw [cf_pos (by omega)]; simp
          rw [List.getLast_cons hne]
          exact i2 hne
theorem cf_tail {n d : Int} (hd : 0 < d) : (∀ x ∈ (cf n d).drop 1, 1 ≤ x) ∧ (∀ h : cf n d ≠ [], 1 < (cf n d).length → 2 ≤ (cf n d).getLast h) := by
  have m0 := Int.emod_nonneg n (show d ≠ 0 by omega)
  have m1 := Int.emod_lt_of_pos n hd
  obtain ⟨i1, i2⟩ := cf_ones _ (d := d) (m := n % d) (Nat.le_refl _) m0 m1
  rw [cf_pos hd]
  refine ⟨i1, fun h h2 => ?_⟩
  have hne : cf d (n % d) ≠ [] := by intro e; rw [e] at h2; simp at h2
  rw [List.getLast_cons hne]
  exact i2 hne
/-- neighbours among the convergents -/
theorem cP_det : ∀ (l : List Int) (i : Nat), i < l.length → (cP (l.take i)).1 * (cP (l.take (i + 1))).2 - (cP (l.take (i + 1))).1 * (cP (l.take i)).2 = 1 ∨ (cP (l.take i)).1 * (cP (l.take (i + 1))).2 - (cP (l.take (i + 1))).1 * (cP (l.take i)).2 = -1
  | [], _, h => by simp at h
  | a :: r, 0, _ => by simp [cP]
  | a :: r, i + 1, h => by
    have ih := cP_det r i (by simpa using h)
    simp only [List.take_succ_cons, cP]
    generalize cP (r.take i) = p at *
    generalize cP (r.take (i + 1)) = q at *
    rcases ih with ih | ih
    · right; grind
    · left; grind
end Go.Vx
