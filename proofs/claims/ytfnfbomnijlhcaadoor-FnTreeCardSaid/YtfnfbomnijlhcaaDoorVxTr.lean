/- What the law of the tree of fractions asks. -/
import Derived.Test.YtfnfbomnijlhcaaDoorVpTr
import Derived.Test.YtfnfbomnijlhcaaDoorVxN
import Derived.Test.YtfnfbomnijlhcaaDoorVxCv
namespace Go.Vx
open Go Go.Proofs
set_option maxRecDepth 100000
set_option linter.unusedSimpArgs false
set_option linter.unusedVariables false

/-! numbers put together lead back -/

theorem fc_back {l : List Int} (h : (fcRes l).2 = true) : goodRt (fcRes l).1 = true ∧ (cfRes (fcRes l).1) = (l, true) := by
  cases hok : fcOk l with
  | false => rw [fcRes_f hok] at h; cases h
  | true =>
    rw [fcRes_t hok] at h ⊢
    obtain ⟨h1, h2, h3, h4⟩ := fcOk_iff.1 hok
    have hlen := (lenI h1).1
    have hne : l ≠ [] := by intro e; rw [e] at hlen; simp at hlen
    have hp : ∀ n ∈ l.drop 1, 1 ≤ n := fun n hn => by
      have := List.all_eq_true.1 h3 n hn
      simp [inB] at this; omega
    have hv := fcR_val hne hp h
    have hcf := cf_cP hne hp (fun hn hl e => h4 ⟨by omega, by rw [getA_eq, List.getD_eq_getElem?_getD, ← List.getLast?_eq_getElem?, List.getLast?_eq_some_getLast hn, e]; rfl⟩)
    have hg : goodRt (fcR l).1 = true := by
      match l, hne, h, h2 with
      | [a], _, _, h2 =>
        have := List.all_eq_true.1 h2 a (by simp)
        simp [inB] at this
        exact good_whole (by omega)
      | a :: b :: r, _, h, _ =>
        cases e1 : (fcR (b :: r)).2 with
        | false => rw [fcR_cons_bad (by simp) e1] at h; cases h
        | true =>
          cases e2 : (divRt ⟨1, 1⟩ (fcR (b :: r)).1).2 with
          | false => rw [fcR_div (by simp) (Prod.ext rfl e1) e2] at h; cases h
          | true =>
            rw [fcR_add (by simp) (Prod.ext rfl e1) e2] at h ⊢
            exact lowRt_good1 h
    refine ⟨hg, ?_⟩
    unfold cfRes
    rw [hg]
    dsimp only
    rw [hv]
    dsimp only
    rw [hcf]

/-! convergents -/

theorem cv_good {y : Rt} (h : (cvRes y).2 = true) : goodRt y = true := by
  cases hg : goodRt y with
  | false => rw [cv_f hg] at h; cases h
  | true => rfl
theorem cv_cf {y : Rt} (h : (cvRes y).2 = true) : (cfRes y).2 = true := by unfold cfRes; rw [cv_good h]
theorem cvG_all {l : List Int} : ∀ (m : Nat) {k : Nat} {acc : List Rt}, l.length - k = m → k ≤ l.length → (cvG l (l.length - k) k acc).2 = true →
    (cvG l (l.length - k) k acc).1 = acc ++ (List.range' k m).map (fun j => (fcR (l.take (j + 1))).1) ∧ ∀ j, k ≤ j → j < l.length → (fcR (l.take (j + 1))).2 = true := by
  intro m
  induction m with
  | zero =>
    intro k acc hm hk h
    rw [cvG_end (by omega)]
    exact ⟨by simp, fun j h1 h2 => by omega⟩
  | succ m ih =>
    intro k acc hm hk h
    cases hb : (fcR (l.take (k + 1))).2 with
    | false => rw [cvG_bad (by omega) hb] at h; cases h
    | true =>
      rw [cvG_ok (by omega) hb] at h ⊢
      obtain ⟨h1, h2⟩ := ih (k := k + 1) (by omega) (by omega) h
      refine ⟨?_, fun j hj1 hj2 => ?_⟩
      · rw [h1, List.range'_succ]; simp
      · rcases Nat.lt_or_eq_of_le hj1 with h | rfl
        · exact h2 j (by omega) hj2
        · exact hb
/-- what is known of convergents -/
structure CvK (y : Rt) : Prop where
  len : (cvRes y).1.length = (cfRes y).1.length
  pos : 1 ≤ (cvRes y).1.length
  val : ∀ i, i < (cvRes y).1.length → getA (VK.dflt .rat) (cvRes y).1 i = ⟨(cP ((cf y.num y.den).take (i + 1))).1, (cP ((cf y.num y.den).take (i + 1))).2⟩ ∧ goodRt (getA (VK.dflt .rat) (cvRes y).1 i) = true
  last : getA (VK.dflt .rat) (cvRes y).1 ((cvRes y).1.length - 1) = y
theorem fcR_good {l : List Int} (hn : numsOk l) (h : (fcR l).2 = true) : goodRt (fcR l).1 = true := by
  match l, h, hn with
  | [], h, _ => cases h
  | [a], _, hn => exact good_whole (hn a (by simp))
  | a :: b :: r, h, _ =>
    cases e1 : (fcR (b :: r)).2 with
    | false => rw [fcR_cons_bad (by simp) e1] at h; cases h
    | true =>
      cases e2 : (divRt ⟨1, 1⟩ (fcR (b :: r)).1).2 with
      | false => rw [fcR_div (by simp) (Prod.ext rfl e1) e2] at h; cases h
      | true =>
        rw [fcR_add (by simp) (Prod.ext rfl e1) e2] at h ⊢
        exact lowRt_good1 h
theorem cv_k {y : Rt} (h : (cvRes y).2 = true) : CvK y := by
  have hg := cv_good h
  have hg2 := goodRt_iff.1 hg
  have ec : (cfRes y).1 = cf y.num y.den := by unfold cfRes; rw [hg]
  have hne : cf y.num y.den ≠ [] := by rw [cf_pos (by omega)]; simp
  have hlen : 1 ≤ (cf y.num y.den).length := by
    cases hh : cf y.num y.den with
    | nil => exact (hne hh).elim
    | cons => simp
  rw [cv_t hg] at h
  obtain ⟨h1, h2⟩ := cvG_all (cf y.num y.den).length (k := 0) rfl (Nat.zero_le _) h
  rw [← cv_t hg] at h1
  rw [List.nil_append] at h1
  have hl : (cvRes y).1.length = (cf y.num y.den).length := by rw [h1]; simp
  obtain ⟨t1, _⟩ := cf_tail (n := y.num) (d := y.den) (by omega)
  have get : ∀ i, i < (cvRes y).1.length → getA (VK.dflt .rat) (cvRes y).1 i = (fcR ((cf y.num y.den).take (i + 1))).1 := by
    intro i hi
    rw [getA_lt _ _ _ hi]
    simp only [h1, List.getElem_map, List.getElem_range', Nat.zero_add, Nat.one_mul]
  have val : ∀ i, i < (cvRes y).1.length → (fcR ((cf y.num y.den).take (i + 1))).1 = ⟨(cP ((cf y.num y.den).take (i + 1))).1, (cP ((cf y.num y.den).take (i + 1))).2⟩ := by
    intro i hi
    refine fcR_val ?_ (fun n hn => ?_) (h2 i (Nat.zero_le _) (by omega))
    · intro e
      have := congrArg List.length e
      rw [List.length_take, List.length_nil] at this
      omega
    · rw [List.drop_take] at hn
      exact t1 n (List.mem_of_mem_take hn)
  refine ⟨by rw [hl, ec], by omega, fun i hi => ⟨by rw [get i hi, val i hi], ?_⟩, ?_⟩
  · rw [get i hi]
    exact fcR_good (nums_take (cf_nums hg) _) (h2 i (Nat.zero_le _) (by omega))
  · rw [get _ (by omega), val _ (by omega), hl, Nat.sub_add_cancel hlen, List.take_length]
    have := cP_cf _ (n := y.num) (d := y.den) (Nat.le_refl _) (by omega) (by omega) (fun e => by omega)
    rw [this]
theorem cv_near {y : Rt} (h : (cvRes y).2 = true) {i : Nat} (hi : i + 1 < (cvRes y).1.length) :
    ((((getA (VK.dflt .rat) (cvRes y).1 i).num * (getA (VK.dflt .rat) (cvRes y).1 (i + 1)).den - (getA (VK.dflt .rat) (cvRes y).1 (i + 1)).num * (getA (VK.dflt .rat) (cvRes y).1 i).den).natAbs : Nat) : Int) = 1 := by
  have k := cv_k h
  rw [(k.val i (by omega)).1, (k.val (i + 1) hi).1]
  dsimp only
  have hg := cv_good h
  have ec : (cfRes y).1 = cf y.num y.den := by unfold cfRes; rw [hg]
  have hl := k.len
  rw [ec] at hl
  rcases cP_det (cf y.num y.den) (i + 1) (by omega) with h | h
  · rw [h]; rfl
  · rw [h]; rfl
/-- the numbers of a continued fraction -/
theorem cf_num {y : Rt} {i : Nat} (hi : i < (cfRes y).1.length) (h0 : 0 < i) : 1 ≤ getA NI.dflt (cfRes y).1 i ∧ (i + 1 = (cfRes y).1.length → 2 ≤ getA NI.dflt (cfRes y).1 i) := by
  cases hg : goodRt y with
  | false =>
    have : (cfRes y).1 = [] := by unfold cfRes; rw [hg]
    rw [this] at hi; simp at hi
  | true =>
    have hg2 := goodRt_iff.1 hg
    have ec : (cfRes y).1 = cf y.num y.den := by unfold cfRes; rw [hg]
    rw [ec] at hi ⊢
    obtain ⟨t1, t2⟩ := cf_tail (n := y.num) (d := y.den) (by omega)
    have e : getA NI.dflt (cf y.num y.den) i = (cf y.num y.den)[i] := getA_lt _ _ _ hi
    rw [e]
    refine ⟨t1 _ ?_, fun hl => ?_⟩
    · rw [List.mem_iff_getElem]
      exact ⟨i - 1, by rw [List.length_drop]; omega, by rw [List.getElem_drop]; congr 1; omega⟩
    · have hne : cf y.num y.den ≠ [] := by intro hh; rw [hh] at hi; simp at hi
      have := t2 hne (by omega)
      rw [List.getLast_eq_getElem] at this
      have e3 : (cf y.num y.den).length - 1 = i := by omega
      simp only [e3] at this
      exact this

/-! the tests of the law -/

theorem tf {b : Bool} {p : Prop} (h : b = false) (h2 : b = true) : p := by rw [h] at h2; cases h2
theorem eqRt_self3 (x : Rt) : eqRt x x = true := decide_eq_true rfl
theorem tr1 {x : Rt} (h : (ptRes x).2 = true) : (!(fpRes (bA (ptRes x).1)).2) = false := by rw [(path_back h).1]; rfl
theorem tr2 {x : Rt} (h : (ptRes x).2 = true) : (!eqRt (fpRes (bA (ptRes x).1)).1 x) = false := by rw [(path_back h).1, eqRt_self3]; rfl
theorem tr3 {x : Rt} (h : (ptRes x).2 = true) : decide ((60 : Int) < ((bA (ptRes x).1).size : Int)) = false := by
  have := (path_back h).2
  rw [decide_eq_false_iff_not]; omega
theorem tr4 {s : ByteArray} (h : (fpRes s).2 = true) : (!(ptRes (fpRes s).1).2) = false := by rw [(follow_back h).1]; rfl
theorem tr5 {s : ByteArray} (h : (fpRes s).2 = true) : (!((bA (ptRes (fpRes s).1).1).toList == s.toList)) = false := by rw [(follow_back h).2]; simp
theorem tr6 {l : List Int} (h : (fcRes l).2 = true) : (!(cfRes (fcRes l).1).2) = false := by rw [(fc_back h).2]; rfl
theorem tr7 {l : List Int} (h : (fcRes l).2 = true) : (!decide ((cfRes (fcRes l).1).1 = l)) = false := by rw [(fc_back h).2]; simp
theorem tr8 {y : Rt} (h : (cvRes y).2 = true) : (((cvRes y).1.length : Int) != ((cfRes y).1.length : Int)) = false := by rw [(cv_k h).len]; simp
theorem tr9 {y : Rt} (h : (cvRes y).2 = true) : (!eqRt (getA (VK.dflt .rat) (cvRes y).1 (((cvRes y).1.length : Int) - 1).toNat) y) = false := by
  rw [show (((cvRes y).1.length : Int) - 1).toNat = (cvRes y).1.length - 1 by omega, (cv_k h).last, eqRt_self3]; rfl
theorem tr11 {y : Rt} (h : (cvRes y).2 = true) : (bif (((cvRes y).1.length : Int) != ((cfRes y).1.length : Int)) then true else !eqRt (getA (VK.dflt .rat) (cvRes y).1 (((cvRes y).1.length : Int) - 1).toNat) y) = false := by
  rw [tr8 h, tr9 h]; rfl
theorem tr12 {y : Rt} (h : (cvRes y).2 = true) {i : Nat} (hi : i + 1 < (cvRes y).1.length) (a b : Nat) (ha : a = i) (hb : b = i + 1) :
    ((((((getA (VK.dflt .rat) (cvRes y).1 a).num * (getA (VK.dflt .rat) (cvRes y).1 b).den - (getA (VK.dflt .rat) (cvRes y).1 b).num * (getA (VK.dflt .rat) (cvRes y).1 a).den).natAbs : Nat) : Int) != 1)) = false := by
  subst ha hb
  rw [cv_near h hi]; rfl
theorem tr10 {y : Rt} (h : (cvRes y).2 = true) : (!(cfRes y).2) = false := by rw [cv_cf h]; rfl
end Go.Vx
