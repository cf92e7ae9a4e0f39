/- slices.Compact at fractions; the reference's putting in; the place of a fraction in a list. -/
import Derived.Test.YtalgocopemmelaaGreatDoorVpSo
import Derived.Test.YtalgocopemmelaaGreatDoorVxK
namespace Go.Vx
open Go Go.Proofs
set_option maxRecDepth 100000
set_option linter.unusedSimpArgs false
set_option linter.unusedVariables false

theorem getA_app_r {α : Type} (d : α) (l m : List α) (i : Nat) (h : l.length ≤ i) : getA d (l ++ m) i = getA d m (i - l.length) := by
  simp only [getA_eq, List.getD_eq_getElem?_getD, List.getElem?_append_right h]
theorem getA_app_l {α : Type} (d : α) (l m : List α) (i : Nat) (h : i < l.length) : getA d (l ++ m) i = getA d l i := by
  simp only [getA_eq, List.getD_eq_getElem?_getD, List.getElem?_append_left h]
theorem getA_drop' {α : Type} (d : α) (l : List α) (n i : Nat) : getA d (l.drop n) i = getA d l (n + i) := by
  simp only [getA_eq, List.getD_eq_getElem?_getD, List.getElem?_drop]

theorem kp_get {l : List Rt} {n i : Nat} (h : (kpL l n).length ≤ i) : getA zR (kpL l n ++ l.drop (kpL l n).length) i = getA zR l i := by
  rw [getA_app_r _ _ _ _ h, getA_drop', show (kpL l n).length + (i - (kpL l n).length) = i by omega]
theorem kp_set {l : List Rt} {n : Nat} (x : Rt) (h : (kpL l n).length < l.length) : (kpL l n ++ l.drop (kpL l n).length).set (kpL l n).length x = (kpL l n ++ [x]) ++ l.drop ((kpL l n).length + 1) := by
  rw [List.drop_eq_getElem_cons h, List.set_append_right _ _ (Nat.le_refl _), Nat.sub_self, List.set_cons_zero, List.append_assoc]
  rfl
theorem eqRt_t {a b : Rt} (h : eqRt a b = true) : a = b := of_decide_eq_true h
theorem eqRt_f {a b : Rt} (h : eqRt a b = false) : a ≠ b := of_decide_eq_false h
theorem toNat_pred {m : Nat} (h : 1 ≤ m) : ((m : Int) - 1).toNat = m - 1 := by omega

theorem putL_at : ∀ {l : List Rt} {k : Nat} {x : Rt}, k ≤ l.length → (∀ j, j < k → lessRt (getA zR l j) x = true) → (k < l.length → lessRt (getA zR l k) x = false) → putL l x = if k < l.length ∧ getA zR l k = x then l else l.take k ++ [x] ++ l.drop k
  | [], k, x, h, _, _ => by
    have : k = 0 := by simpa using h
    subst this
    rw [putL_nil]; simp
  | y :: r, 0, x, _, _, h2 => by
    have h3 : lessRt y x = false := h2 (by simp)
    rw [putL_cons, if_neg (by rw [h3]; exact Bool.false_ne_true)]
    have e : getA zR (y :: r) 0 = y := rfl
    rw [e]
    by_cases h : y = x
    · rw [if_pos h, if_pos ⟨by simp, h⟩]
    · rw [if_neg h, if_neg (fun h2 => h h2.2)]; rfl
  | y :: r, k + 1, x, h, h1, h2 => by
    have h3 : lessRt y x = true := h1 0 (by omega)
    rw [putL_cons, if_pos h3, putL_at (k := k) (by simpa using h) (fun j hj => h1 (j + 1) (by omega)) (fun hj => h2 (by simpa using hj))]
    have e : getA zR (y :: r) (k + 1) = getA zR r k := rfl
    rw [e]
    by_cases h4 : k < r.length ∧ getA zR r k = x
    · rw [if_pos h4, if_pos ⟨by simpa using h4.1, h4.2⟩]
    · rw [if_neg h4, if_neg (fun h5 => h4 ⟨by simpa using h5.1, h5.2⟩)]; simp
noncomputable def s_spec_imPut : Sig := ⟨82, [.own 30 .rat, .val .rat], [.list 30 .rat], fun ((l : List Rt), (x : Rt), _) => ⟨[∀ y ∈ l, goodRt y = true, goodRt x = true, l.length ≤ 100000], (putL l x, ()), ()⟩⟩
theorem ok_spec_imPut : GSpec Tryz.prog s_spec_imPut := by
  refine fn_known tab_ok fol (Known.nil.cons ok_spec_raCmp (by kernel_rfl)) (by decide) Tryz.func82 ?_
  rintro ⟨(l : List Rt), (x : Rt), ⟨⟩⟩ ⟨hl, _⟩ ⟨h1, h2, h3, _⟩
  have hl : l.length ≤ 9223372036854775807 := hl
  refine ⟨Nat, fun k => ⟨[(5, .sc (.num .i64 k))], [100000, 3], []⟩, fun k => k ≤ l.length ∧ ∀ j, j < k → lessRt (getA zR l j) x = true, fun k => l.length - k, ⟨0, ⟨by omega, fun j h1 => by omega⟩, ?_⟩, ?_⟩
  · repeat' (first | apply And.intro | exact True.intro | exact Lf.mk (by with_reducible rfl) | apply Lf.mk)
    all_goals rfl
  · rintro k ⟨g1, g2⟩
    repeat' (first | with_reducible apply andAll_cons | with_reducible apply andAll_nil | (with_reducible apply Cf.mk; kernel_rfl) | apply And.intro | intro _ | exact True.intro | apply Lf.mk)
    all_goals (try simp only [Bool.not_eq_true', Bool.not_eq_false', Bool.not_not, decide_eq_true_eq, decide_eq_false_iff_not, beq_iff_eq, bne_iff_ne, beq_eq_false_iff_ne, bne_eq_false_iff_eq, ne_eq, Bool.and_eq_true, Bool.and_eq_false_iff, Bool.or_eq_true, Bool.or_eq_false_iff, Int.toNat_natCast, Nat.zero_add, Int.ofNat_lt, Int.ofNat_le, List.length_cons, List.length_nil, List.drop_zero, List.take_length] at *)
    all_goals first | omega | exact h2 | exact h1 _ (getA_mem _ (by assumption)) | skip
    all_goals first | (simp only [List.length_append, List.length_take, List.length_drop, List.length_nil, List.length_cons]; show _ * 16 ≤ _; omega) | skip
    · rename_i h4 h5
      rw [decide_eq_true h4, cond_true, cmp_less] at h5
      refine ⟨k + 1, ⟨by omega, fun j hj => ?_⟩, by omega, ?_⟩
      · by_cases h7 : j = k
        · rw [h7]; exact h5
        · exact g2 j (by omega)
      · repeat' (first | apply And.intro | exact True.intro | exact Lf.mk (by with_reducible rfl) | apply Lf.mk)
        all_goals first | rfl | omega | trace_state
    · rename_i h4 h5 h6 h7
      rw [decide_eq_true h4, cond_true, cmp_less] at h5
      rw [decide_eq_true h4, cond_true] at h7
      rw [putL_at g1 g2 (fun _ => h5), if_pos ⟨h4, eqRt_t (a := getA zR l k) (b := x) h7⟩]
    · rename_i h4 h5 h6 h7
      rw [decide_eq_true h4, cond_true, cmp_less] at h5
      rw [decide_eq_true h4, cond_true] at h7
      rw [putL_at g1 g2 (fun _ => h5), if_neg (fun h => eqRt_f (a := getA zR l k) (b := x) h7 h.2), List.nil_append, Nat.sub_zero, List.take_of_length_le (l := l.drop k) (by rw [List.length_drop]; omega)]
    · exact absurd ‹false = true› Bool.false_ne_true
    · exact absurd ‹false = true› Bool.false_ne_true
    · have h7 : ¬ k < l.length := by assumption
      rw [putL_at g1 g2 (fun h => (h7 h).elim), if_neg (fun h => h7 h.1), List.nil_append, Nat.sub_zero, List.take_of_length_le (l := l.drop k) (by rw [List.length_drop]; omega)]

end Go.Vx
