/- The laws' own helpers at points and intervals: equality of results, marks written into them, copies of arguments. -/
import Derived.Test.YtfnfbomnijlhcaaDoorVxL
namespace Go.Vx
open Go Go.Proofs
set_option maxRecDepth 100000
set_option linter.unusedSimpArgs false
set_option linter.unusedVariables false

theorem getA_set_self {α : Type} (d : α) (l : List α) (i : Nat) (x : α) (h : i < l.length) : getA d (l.set i x) i = x := by
  rw [getA_lt _ _ _ (by simpa using h), List.getElem_set_self]
def mkPt (k : Int) (n : Nat) : List Pt := (List.range n).map fun (i : Nat) => (⟨⟨k + 4 * (i : Int), k + 4 * (i : Int) + 1⟩, ⟨k + 4 * (i : Int) + 2, k + 4 * (i : Int) + 3⟩⟩ : Pt)
theorem mkPt_length (k : Int) (n : Nat) : (mkPt k n).length = n := by simp [mkPt]
theorem Pt_ext4 (p : Pt) {a b c d : Int} (h1 : p.1.num = a) (h2 : p.1.den = b) (h3 : p.2.num = c) (h4 : p.2.den = d) : p = ⟨⟨a, b⟩, ⟨c, d⟩⟩ := by subst h1; subst h2; subst h3; subst h4; rfl

def mkIv (k : Int) (n : Nat) : List Iv := (List.range n).map fun (i : Nat) => (⟨⟨k + 4 * (i : Int), k + 4 * (i : Int) + 1⟩, ⟨k + 4 * (i : Int) + 2, k + 4 * (i : Int) + 3⟩⟩ : Iv)
theorem mkIv_length (k : Int) (n : Nat) : (mkIv k n).length = n := by simp [mkIv]
theorem Iv_ext4 (p : Iv) {a b c d : Int} (h1 : p.1.num = a) (h2 : p.1.den = b) (h3 : p.2.num = c) (h4 : p.2.den = d) : p = ⟨⟨a, b⟩, ⟨c, d⟩⟩ := by subst h1; subst h2; subst h3; subst h4; rfl

noncomputable def s_laws_toRatS : Sig := ⟨24, [.list .rat], [.list 24 .rat], fun ((l : List Rt), _) => ⟨[l.length ≤ 1000000000], (l, ()), ()⟩⟩
theorem ok_laws_toRatS : GSpec Tryd.prog s_laws_toRatS := by
  refine fn_known tab_ok fol (Known.nil.cons ok_laws_toRat (by kernel_rfl)) (by decide) Tryd.func24 ?_
  rintro ⟨(l : List Rt), ⟨⟩⟩ ⟨hl, _⟩ ⟨h1, _⟩
  repeat' (first | with_reducible apply andAll_cons | with_reducible apply andAll_nil | (with_reducible apply Cf.mk; kernel_rfl) | apply And.intro | intro _ | exact True.intro | apply Lf.mk)
  all_goals (try simp only [Bool.not_eq_true', Bool.not_eq_false', Bool.not_not, decide_eq_true_eq, decide_eq_false_iff_not, beq_iff_eq, bne_iff_ne, beq_eq_false_iff_ne, bne_eq_false_iff_eq, ne_eq, Bool.and_eq_true, Bool.and_eq_false_iff, Bool.or_eq_true, Bool.or_eq_false_iff, Int.toNat_natCast, Nat.zero_add, Int.ofNat_lt, Int.ofNat_le, List.length_cons, List.length_nil, List.drop_zero, List.take_length] at *)
  all_goals first | omega | (show _ * 16 ≤ 140737488355328; omega) | skip
  refine ⟨Nat, fun i => ⟨[(4, .sc (.num .i64 i)), (3, .sc (.own 7))], [100000], [(7, .row 24 .rat ((List.range i).map (fun (i : Nat) => getA VK.rat.dflt l i) ++ (List.replicate l.length VK.rat.dflt).drop i))]⟩, fun i => i ≤ l.length, fun i => l.length - i, ⟨0, Nat.zero_le _, ?_⟩, ?_⟩
  · repeat' (first | apply And.intro | exact True.intro | exact Lf.mk (by with_reducible rfl) | apply Lf.mk)
    all_goals first | rfl | simp
  · rintro i g1
    have hm := mark_length (fun (i : Nat) => getA VK.rat.dflt l i) (List.replicate l.length VK.rat.dflt) i (by simpa using g1)
    simp only [List.length_replicate] at hm
    repeat' (first | with_reducible apply andAll_cons | with_reducible apply andAll_nil | (with_reducible apply Cf.mk; kernel_rfl) | apply And.intro | intro _ | exact True.intro | apply Lf.mk)
    all_goals (try simp only [Bool.not_eq_true', Bool.not_eq_false', Bool.not_not, decide_eq_true_eq, decide_eq_false_iff_not, beq_iff_eq, bne_iff_ne, beq_eq_false_iff_ne, bne_eq_false_iff_eq, ne_eq, Bool.and_eq_true, Bool.and_eq_false_iff, Bool.or_eq_true, Bool.or_eq_false_iff, Int.toNat_natCast, Nat.zero_add, Int.ofNat_lt, Int.ofNat_le, List.length_cons, List.length_nil, List.drop_zero, List.take_length] at *)
    all_goals first | omega | skip
    · rename_i h3
      refine ⟨i + 1, by omega, by omega, ?_⟩
      repeat' (first | apply And.intro | exact True.intro | exact Lf.mk (by with_reducible rfl) | apply Lf.mk)
      · rw [Int.natCast_add]; rfl
      · exact set_mark (fun (i : Nat) => getA VK.rat.dflt l i) _ i _ (by simpa using h3) rfl
    · rename_i h3
      rw [mark_end _ _ i (by simpa using h3) (by simpa using g1)]
      apply List.ext_getElem
      · simp
      · intro j h4 h5
        simp [getA_lt _ _ _ h5]
noncomputable def s_laws_szRatS : Sig := ⟨22, [.list .rat, .val NI], [.val NI], fun ((l : List Rt), (left : Int), _) => ⟨[0 ≤ left, left ≤ 4000000000000000000], ((if left - l.length < 0 then -1 else left - l.length : Int), ()), ()⟩⟩
theorem ok_laws_szRatS : GSpec Tryd.prog s_laws_szRatS := by
  refine fn_known tab_ok fol Known.nil (by decide) Tryd.func22 ?_
  rintro ⟨(l : List Rt), (left : Int), ⟨⟩⟩ ⟨hl, _⟩ ⟨h1, h2, _⟩
  have hl : l.length ≤ 9223372036854775807 := hl
  repeat' (first | with_reducible apply andAll_cons | with_reducible apply andAll_nil | (with_reducible apply Cf.mk; kernel_rfl) | apply And.intro | intro _ | exact True.intro | apply Lf.mk)
  all_goals (try simp only [Bool.not_eq_true', Bool.not_eq_false', Bool.not_not, decide_eq_true_eq, decide_eq_false_iff_not, beq_iff_eq, bne_iff_ne, beq_eq_false_iff_ne, bne_eq_false_iff_eq, ne_eq, Bool.and_eq_true, Bool.and_eq_false_iff, Bool.or_eq_true, Bool.or_eq_false_iff, Int.toNat_natCast, Nat.zero_add, Int.ofNat_lt, Int.ofNat_le, List.length_cons, List.length_nil, List.drop_zero, List.take_length] at *)
  all_goals first | omega | (rw [if_pos (by assumption)]; done) | (rw [if_neg (by assumption)]; done) | trace_state
end Go.Vx
