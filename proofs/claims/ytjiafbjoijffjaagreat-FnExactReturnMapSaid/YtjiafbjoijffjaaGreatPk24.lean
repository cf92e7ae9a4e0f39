/- The laws' own helpers at points and intervals: equality of results, marks written into them, copies of arguments. -/
import Derived.Test.YtjiafbjoijffjaaGreatPk11
namespace Go.Vx
open Go Go.Proofs
set_option maxRecDepth 100000
set_option linter.unusedSimpArgs false
set_option linter.unusedVariables false

theorem getA_set_self {α : Type} (d : α) (l : List α) (i : Nat) (x : α) (h : i < l.length) : getA d (l.set i x) i = x := by
  rw [getA_lt _ _ _ (by simpa using h), List.getElem_set_self]
def mkPt (k : Int) (n : Nat) : List Pt := (List.range n).map fun (i : Nat) => (⟨⟨k + 4 * (i : Int), k + 4 * (i : Int) + 1⟩, ⟨k + 4 * (i : Int) + 2, k + 4 * (i : Int) + 3⟩⟩ : Pt)
theorem mkPt_length (k : Int) (n : Nat) : (mkPt k n).length = n := by simp [mkPt]
theorem Pt_ext4 (p : Pt) {a b c d : Int} (h1 : p.1.num = a) (h2 : p.1.den = b) (h3 : p.2.num = c) (h4 : p.2.den = d) : p = ⟨⟨a, b⟩, ⟨c, d⟩⟩ := by subst h1; subst h2; subst h3; subst h4; rfl
noncomputable def s_laws_toPoint : Sig := ⟨98, [.val .pt], [.val .pt], fun ((a : Pt), _) => ⟨[], (a, ()), ()⟩⟩
theorem ok_laws_toPoint : GSpec Tryz.prog s_laws_toPoint := by
  refine fn_known tab_ok fol (Known.nil.cons ok_laws_toRat (by kernel_rfl)) (by decide) Tryz.func98 ?_
  rintro ⟨⟨⟨(n : Int), (d : Int)⟩, ⟨(m : Int), (e : Int)⟩⟩, ⟨⟩⟩ hl _
  repeat' (first | with_reducible apply andAll_cons | with_reducible apply andAll_nil | (with_reducible apply Cf.mk; kernel_rfl) | apply And.intro | intro _ | exact True.intro | apply Lf.mk)
  all_goals rfl
noncomputable def s_laws_eqPoint : Sig := ⟨106, [.val .pt, .val .pt], [.val .bool], fun ((a : Pt), (b : Pt), _) => ⟨[], (decide (a = b), ()), ()⟩⟩
theorem ok_laws_eqPoint : GSpec Tryz.prog s_laws_eqPoint := by
  refine fn_known tab_ok fol (Known.nil.cons ok_laws_eqRat (by kernel_rfl)) (by decide) Tryz.func106 ?_
  rintro ⟨⟨⟨(n : Int), (d : Int)⟩, ⟨(m : Int), (e : Int)⟩⟩, ⟨⟨(n' : Int), (d' : Int)⟩, ⟨(m' : Int), (e' : Int)⟩⟩, ⟨⟩⟩ hl _
  repeat' (first | with_reducible apply andAll_cons | with_reducible apply andAll_nil | (with_reducible apply Cf.mk; kernel_rfl) | apply And.intro | intro _ | exact True.intro | apply Lf.mk)
  all_goals (try simp only [Bool.not_eq_true', Bool.not_eq_false', Bool.not_not, decide_eq_true_eq, decide_eq_false_iff_not, beq_iff_eq, bne_iff_ne, beq_eq_false_iff_ne, bne_eq_false_iff_eq, ne_eq, Bool.and_eq_true, Bool.and_eq_false_iff, Bool.or_eq_true, Bool.or_eq_false_iff, Int.toNat_natCast, Nat.zero_add, Int.ofNat_lt, Int.ofNat_le, List.length_cons, List.length_nil, List.drop_zero, List.take_length] at *)
  all_goals (try change @Eq Bool _ _)
  all_goals simp_all
noncomputable def s_laws_eqPointS : Sig := ⟨28, [.list .pt, .list .pt], [.val .bool], fun ((a : List Pt), (b : List Pt), _) => ⟨[], (decide (a = b), ()), ()⟩⟩
theorem ok_laws_eqPointS : GSpec Tryz.prog s_laws_eqPointS := by
  refine fn_known tab_ok fol (Known.nil.cons ok_laws_eqPoint (by kernel_rfl)) (by decide) Tryz.func28 ?_
  rintro ⟨(a : List Pt), (b : List Pt), ⟨⟩⟩ ⟨hl, hl', _⟩ _
  have hl : a.length ≤ 9223372036854775807 := hl
  repeat' (first | with_reducible apply andAll_cons | with_reducible apply andAll_nil | (with_reducible apply Cf.mk; kernel_rfl) | apply And.intro | intro _ | exact True.intro | apply Lf.mk)
  all_goals (try simp only [Bool.not_eq_true', Bool.not_eq_false', Bool.not_not, decide_eq_true_eq, decide_eq_false_iff_not, beq_iff_eq, bne_iff_ne, beq_eq_false_iff_ne, bne_eq_false_iff_eq, ne_eq, Bool.and_eq_true, Bool.and_eq_false_iff, Bool.or_eq_true, Bool.or_eq_false_iff, Int.toNat_natCast, Nat.zero_add, Int.ofNat_lt, Int.ofNat_le, List.length_cons, List.length_nil, List.drop_zero, List.take_length] at *)
  · rename_i h; change false = decide (a = b); symm; rw [decide_eq_false_iff_not]; intro h2; apply h; rw [h2]
  · rename_i h
    have h : a.length = b.length := by omega
    refine ⟨Nat, fun i => ⟨[(5, .sc (.num .i64 i))], [100000, 100001], []⟩, fun i => i ≤ a.length ∧ a.take i = b.take i, fun i => a.length - i, ⟨0, ?_, ?_⟩, ?_⟩
    · exact ⟨Nat.zero_le _, rfl⟩
    · repeat' (first | apply And.intro | exact True.intro | exact Lf.mk (by with_reducible rfl) | apply Lf.mk)
      all_goals rfl
    · rintro i ⟨g1, g2⟩
      repeat' (first | with_reducible apply andAll_cons | with_reducible apply andAll_nil | (with_reducible apply Cf.mk; kernel_rfl) | apply And.intro | intro _ | exact True.intro | apply Lf.mk)
      all_goals (try simp only [Bool.not_eq_true', Bool.not_eq_false', Bool.not_not, decide_eq_true_eq, decide_eq_false_iff_not, beq_iff_eq, bne_iff_ne, beq_eq_false_iff_ne, bne_eq_false_iff_eq, ne_eq, Bool.and_eq_true, Bool.and_eq_false_iff, Bool.or_eq_true, Bool.or_eq_false_iff, Int.toNat_natCast, Nat.zero_add, Int.ofNat_lt, Int.ofNat_le, List.length_cons, List.length_nil, List.drop_zero, List.take_length] at *)
      all_goals first | omega | skip
      · rename_i h3 h4; change false = decide (a = b); symm; rw [decide_eq_false_iff_not]; intro h2; apply h4; rw [h2]
      · rename_i h3 h4
        refine ⟨i + 1, ⟨by omega, take_eq_succ VK.pt.dflt a b i h3 (by omega) g2 h4⟩, by omega, ?_⟩
        repeat' (first | apply And.intro | exact True.intro | exact Lf.mk (by with_reducible rfl) | apply Lf.mk)
        all_goals rfl
      · rename_i h3; change true = decide (a = b); symm; rw [decide_eq_true_eq]; exact eq_of_take h h3 g2
noncomputable def s_laws_markPointS : Sig := ⟨29, [.mrow 107 .pt, .val NI], [.val NI], fun ((l : List Pt), (k : Int), _) => ⟨[0 ≤ k, k + 4 * l.length ≤ 4000000000000000000], (k + 4 * l.length, ()), mkPt k l.length, ()⟩⟩
theorem ok_laws_markPointS : GSpec Tryz.prog s_laws_markPointS := by
  refine fn_known tab_ok fol Known.nil (by decide) Tryz.func29 ?_
  rintro ⟨(l : List Pt), (k : Int), ⟨⟩⟩ ⟨hl, _⟩ ⟨h1, h2, _⟩
  have hl : l.length ≤ 9223372036854775807 := hl
  refine ⟨Nat, fun i => ⟨[(5, .sc (.num .i64 i)), (1, .sc (.num .i64 (k + 4 * i)))], [], [(100000, .row 107 .pt ((List.range i).map (fun (i : Nat) => (⟨⟨k + 4 * (i : Int), k + 4 * (i : Int) + 1⟩, ⟨k + 4 * (i : Int) + 2, k + 4 * (i : Int) + 3⟩⟩ : Pt)) ++ l.drop i))]⟩, fun i => i ≤ l.length, fun i => l.length - i, ⟨0, Nat.zero_le _, ?_⟩, ?_⟩
  · repeat' (first | apply And.intro | exact True.intro | exact Lf.mk (by with_reducible rfl) | apply Lf.mk)
    all_goals first | rfl | simp
  · intro i g1
    have hm := mark_length (fun (i : Nat) => (⟨⟨k + 4 * (i : Int), k + 4 * (i : Int) + 1⟩, ⟨k + 4 * (i : Int) + 2, k + 4 * (i : Int) + 3⟩⟩ : Pt)) l i g1
    repeat' (first | with_reducible apply andAll_cons | with_reducible apply andAll_nil | (with_reducible apply Cf.mk; kernel_rfl) | apply And.intro | intro _ | exact True.intro | apply Lf.mk)
    all_goals simp only [List.length_set, hm] at *
    all_goals (try simp only [Bool.not_eq_true', Bool.not_eq_false', Bool.not_not, decide_eq_true_eq, decide_eq_false_iff_not, beq_iff_eq, bne_iff_ne, beq_eq_false_iff_ne, bne_eq_false_iff_eq, ne_eq, Bool.and_eq_true, Bool.and_eq_false_iff, Bool.or_eq_true, Bool.or_eq_false_iff, Int.toNat_natCast, Nat.zero_add, Int.ofNat_lt, Int.ofNat_le, List.length_cons, List.length_nil, List.drop_zero, List.take_length] at *)
    all_goals first | omega | skip
    · rename_i h3
      refine ⟨i + 1, by omega, by omega, ?_⟩
      repeat' (first | apply And.intro | exact True.intro | exact Lf.mk (by with_reducible rfl) | apply Lf.mk)
      · rw [Int.natCast_add]; rfl
      · rw [Int.natCast_add]; omega
      · rw [List.set_set, List.set_set, List.set_set]
        refine set_mark (fun (i : Nat) => (⟨⟨k + 4 * (i : Int), k + 4 * (i : Int) + 1⟩, ⟨k + 4 * (i : Int) + 2, k + 4 * (i : Int) + 3⟩⟩ : Pt)) l i _ h3 ?_
        simp only [List.set_set, getA_set_self _ _ _ _ (show i < ((List.range i).map (fun (i : Nat) => (⟨⟨k + 4 * (i : Int), k + 4 * (i : Int) + 1⟩, ⟨k + 4 * (i : Int) + 2, k + 4 * (i : Int) + 3⟩⟩ : Pt)) ++ l.drop i).length from by rw [mark_length (fun (i : Nat) => (⟨⟨k + 4 * (i : Int), k + 4 * (i : Int) + 1⟩, ⟨k + 4 * (i : Int) + 2, k + 4 * (i : Int) + 3⟩⟩ : Pt)) l i g1]; exact h3)]
        rw [show k + 4 * (i : Int) + 1 + 1 = k + 4 * (i : Int) + 2 by omega, show k + 4 * (i : Int) + 2 + 1 = k + 4 * (i : Int) + 3 by omega]
    · have : i = l.length := by omega
      rw [this]
    · rename_i h3
      exact mark_end _ l i h3 g1
noncomputable def s_laws_heldPointS : Sig := ⟨30, [.list .pt, .val NI], [.val NI], fun ((l : List Pt), (k : Int), _) => ⟨[0 ≤ k, k + 4 * l.length ≤ 4000000000000000000], ((if l = mkPt k l.length then k + 4 * l.length else -1 : Int), ()), ()⟩⟩
theorem ok_laws_heldPointS : GSpec Tryz.prog s_laws_heldPointS := by
  refine fn_known tab_ok fol Known.nil (by decide) Tryz.func30 ?_
  rintro ⟨(l : List Pt), (k : Int), ⟨⟩⟩ ⟨hl, _⟩ ⟨h1, h2, _⟩
  have hl : l.length ≤ 9223372036854775807 := hl
  refine ⟨Nat, fun i => ⟨[(5, .sc (.num .i64 i)), (1, .sc (.num .i64 (k + 4 * i)))], [100000], []⟩, fun i => i ≤ l.length ∧ l.take i = (List.range i).map (fun (i : Nat) => (⟨⟨k + 4 * (i : Int), k + 4 * (i : Int) + 1⟩, ⟨k + 4 * (i : Int) + 2, k + 4 * (i : Int) + 3⟩⟩ : Pt)), fun i => l.length - i, ⟨0, ⟨Nat.zero_le _, rfl⟩, ?_⟩, ?_⟩
  · repeat' (first | apply And.intro | exact True.intro | exact Lf.mk (by with_reducible rfl) | apply Lf.mk)
    all_goals first | rfl | simp
  · rintro i ⟨g1, g2⟩
    have no : ∀ (h3 : i < l.length), getA VK.pt.dflt l i ≠ (⟨⟨k + 4 * (i : Int), k + 4 * (i : Int) + 1⟩, ⟨k + 4 * (i : Int) + 2, k + 4 * (i : Int) + 3⟩⟩ : Pt) → ¬ l = mkPt k l.length := fun h3 h4 =>
      ne_range VK.pt.dflt (fun (i : Nat) => (⟨⟨k + 4 * (i : Int), k + 4 * (i : Int) + 1⟩, ⟨k + 4 * (i : Int) + 2, k + 4 * (i : Int) + 3⟩⟩ : Pt)) l i h3 h4
    repeat' (first | with_reducible apply andAll_cons | with_reducible apply andAll_nil | (with_reducible apply Cf.mk; kernel_rfl) | apply And.intro | intro _ | exact True.intro | apply Lf.mk)
    all_goals (try simp only [Bool.not_eq_true', Bool.not_eq_false', Bool.not_not, decide_eq_true_eq, decide_eq_false_iff_not, beq_iff_eq, bne_iff_ne, beq_eq_false_iff_ne, bne_eq_false_iff_eq, ne_eq, Bool.and_eq_true, Bool.and_eq_false_iff, Bool.or_eq_true, Bool.or_eq_false_iff, Int.toNat_natCast, Nat.zero_add, Int.ofNat_lt, Int.ofNat_le, List.length_cons, List.length_nil, List.drop_zero, List.take_length] at *)
    all_goals first | omega | skip
    · rename_i h3 h4
      exact (if_neg (no h3 (fun h => h4 (by rw [h])))).symm
    · rename_i h3 h5 h4
      exact (if_neg (no h3 (fun h => h4 (by rw [h])))).symm
    · rename_i h3 h5 h6 h4
      exact (if_neg (no h3 (fun h => h4 (by rw [h]; dsimp only; omega)))).symm
    · rename_i h3 h5 h6 h7 h4
      exact (if_neg (no h3 (fun h => h4 (by rw [h]; dsimp only; omega)))).symm
    · rename_i h3 h4 h5 h6 h7
      refine ⟨i + 1, ⟨by omega, take_range_succ VK.pt.dflt _ l i h3 g2 ?_⟩, by omega, ?_⟩
      · exact Pt_ext4 _ h4 h5 (h6.trans (by omega)) (h7.trans (by omega))
      · repeat' (first | apply And.intro | exact True.intro | exact Lf.mk (by with_reducible rfl) | apply Lf.mk)
        · rw [Int.natCast_add]; rfl
        · rw [Int.natCast_add]; omega
    · have : i = l.length := by omega
      subst this
      rw [List.take_of_length_le (Nat.le_refl _)] at g2
      exact (if_pos (g2 : l = mkPt k l.length)).symm
noncomputable def s_laws_toPointS : Sig := ⟨25, [.list .pt], [.list 107 .pt], fun ((l : List Pt), _) => ⟨[l.length ≤ 1000000000], (l, ()), ()⟩⟩
theorem ok_laws_toPointS : GSpec Tryz.prog s_laws_toPointS := by
  refine fn_known tab_ok fol (Known.nil.cons ok_laws_toPoint (by kernel_rfl)) (by decide) Tryz.func25 ?_
  rintro ⟨(l : List Pt), ⟨⟩⟩ ⟨hl, _⟩ ⟨h1, _⟩
  repeat' (first | with_reducible apply andAll_cons | with_reducible apply andAll_nil | (with_reducible apply Cf.mk; kernel_rfl) | apply And.intro | intro _ | exact True.intro | apply Lf.mk)
  all_goals (try simp only [Bool.not_eq_true', Bool.not_eq_false', Bool.not_not, decide_eq_true_eq, decide_eq_false_iff_not, beq_iff_eq, bne_iff_ne, beq_eq_false_iff_ne, bne_eq_false_iff_eq, ne_eq, Bool.and_eq_true, Bool.and_eq_false_iff, Bool.or_eq_true, Bool.or_eq_false_iff, Int.toNat_natCast, Nat.zero_add, Int.ofNat_lt, Int.ofNat_le, List.length_cons, List.length_nil, List.drop_zero, List.take_length] at *)
  all_goals first | omega | (show _ * 32 ≤ 140737488355328; omega) | skip
  refine ⟨Nat, fun i => ⟨[(4, .sc (.num .i64 i)), (3, .sc (.own 7))], [100000], [(7, .row 107 .pt ((List.range i).map (fun (i : Nat) => getA VK.pt.dflt l i) ++ (List.replicate l.length VK.pt.dflt).drop i))]⟩, fun i => i ≤ l.length, fun i => l.length - i, ⟨0, Nat.zero_le _, ?_⟩, ?_⟩
  · repeat' (first | apply And.intro | exact True.intro | exact Lf.mk (by with_reducible rfl) | apply Lf.mk)
    all_goals first | rfl | simp
  · rintro i g1
    have hm := mark_length (fun (i : Nat) => getA VK.pt.dflt l i) (List.replicate l.length VK.pt.dflt) i (by simpa using g1)
    simp only [List.length_replicate] at hm
    repeat' (first | with_reducible apply andAll_cons | with_reducible apply andAll_nil | (with_reducible apply Cf.mk; kernel_rfl) | apply And.intro | intro _ | exact True.intro | apply Lf.mk)
    all_goals (try simp only [Bool.not_eq_true', Bool.not_eq_false', Bool.not_not, decide_eq_true_eq, decide_eq_false_iff_not, beq_iff_eq, bne_iff_ne, beq_eq_false_iff_ne, bne_eq_false_iff_eq, ne_eq, Bool.and_eq_true, Bool.and_eq_false_iff, Bool.or_eq_true, Bool.or_eq_false_iff, Int.toNat_natCast, Nat.zero_add, Int.ofNat_lt, Int.ofNat_le, List.length_cons, List.length_nil, List.drop_zero, List.take_length] at *)
    all_goals first | omega | skip
    · rename_i h3
      refine ⟨i + 1, by omega, by omega, ?_⟩
      repeat' (first | apply And.intro | exact True.intro | exact Lf.mk (by with_reducible rfl) | apply Lf.mk)
      · rw [Int.natCast_add]; rfl
      · exact set_mark (fun (i : Nat) => getA VK.pt.dflt l i) _ i _ (by simpa using h3) rfl
    · rename_i h3
      rw [mark_end _ _ i (by simpa using h3) (by simpa using g1)]
      apply List.ext_getElem
      · simp
      · intro j h4 h5
        simp [getA_lt _ _ _ h5]
noncomputable def s_laws_szPointS : Sig := ⟨23, [.list .pt, .val NI], [.val NI], fun ((l : List Pt), (left : Int), _) => ⟨[0 ≤ left, left ≤ 4000000000000000000], ((if left - l.length < 0 then -1 else left - l.length : Int), ()), ()⟩⟩
theorem ok_laws_szPointS : GSpec Tryz.prog s_laws_szPointS := by
  refine fn_known tab_ok fol Known.nil (by decide) Tryz.func23 ?_
  rintro ⟨(l : List Pt), (left : Int), ⟨⟩⟩ ⟨hl, _⟩ ⟨h1, h2, _⟩
  have hl : l.length ≤ 9223372036854775807 := hl
  repeat' (first | with_reducible apply andAll_cons | with_reducible apply andAll_nil | (with_reducible apply Cf.mk; kernel_rfl) | apply And.intro | intro _ | exact True.intro | apply Lf.mk)
  all_goals (try simp only [Bool.not_eq_true', Bool.not_eq_false', Bool.not_not, decide_eq_true_eq, decide_eq_false_iff_not, beq_iff_eq, bne_iff_ne, beq_eq_false_iff_ne, bne_eq_false_iff_eq, ne_eq, Bool.and_eq_true, Bool.and_eq_false_iff, Bool.or_eq_true, Bool.or_eq_false_iff, Int.toNat_natCast, Nat.zero_add, Int.ofNat_lt, Int.ofNat_le, List.length_cons, List.length_nil, List.drop_zero, List.take_length] at *)
  all_goals first | omega | (rw [if_pos (by assumption)]; done) | (rw [if_neg (by assumption)]; done) | trace_state

def mkIv (k : Int) (n : Nat) : List Iv := (List.range n).map fun (i : Nat) => (⟨⟨k + 4 * (i : Int), k + 4 * (i : Int) + 1⟩, ⟨k + 4 * (i : Int) + 2, k + 4 * (i : Int) + 3⟩⟩ : Iv)
theorem mkIv_length (k : Int) (n : Nat) : (mkIv k n).length = n := by simp [mkIv]
theorem Iv_ext4 (p : Iv) {a b c d : Int} (h1 : p.1.num = a) (h2 : p.1.den = b) (h3 : p.2.num = c) (h4 : p.2.den = d) : p = ⟨⟨a, b⟩, ⟨c, d⟩⟩ := by subst h1; subst h2; subst h3; subst h4; rfl
noncomputable def s_laws_toInterval : Sig := ⟨26, [.val .iv], [.val .iv], fun ((a : Iv), _) => ⟨[], (a, ()), ()⟩⟩
theorem ok_laws_toInterval : GSpec Tryz.prog s_laws_toInterval := by
  refine fn_known tab_ok fol (Known.nil.cons ok_laws_toRat (by kernel_rfl)) (by decide) Tryz.func26 ?_
  rintro ⟨⟨⟨(n : Int), (d : Int)⟩, ⟨(m : Int), (e : Int)⟩⟩, ⟨⟩⟩ hl _
  repeat' (first | with_reducible apply andAll_cons | with_reducible apply andAll_nil | (with_reducible apply Cf.mk; kernel_rfl) | apply And.intro | intro _ | exact True.intro | apply Lf.mk)
  all_goals rfl

end Go.Vx
