/- The laws' own helpers at points and intervals: equality of results, marks written into them, copies of arguments. -/
import Derived.Test.YtlknhfldkkjclaaVxL
namespace Go.Vx
open Go Go.Proofs
set_option maxRecDepth 100000
set_option linter.unusedSimpArgs false
set_option linter.unusedVariables false

theorem getA_set_self {α : Type} (d : α) (l : List α) (i : Nat) (x : α) (h : i < l.length) : getA d (l.set i x) i = x := by
  rw [getA_lt _ _ _ (by simpa using h), List.getElem_set_self]
def mkPt (k : Int) (n : Nat) : List Pt := (List.range n).map fun (i : Nat) => (⟨⟨k + 4 * (i : Int), k + 4 * (i : Int) + 1⟩, ⟨k + 4 * (i : Int) + 2, k + 4 * (i : Int) + 3⟩⟩ : Pt)
theorem mkPt_length (k : Int) (n : Nat) : (mkPt k n).length = n := by simp [mkPt]
theorem Pt_ext4 (p : Pt) {a b c d : Int} (h1 : p.1.num = a) (h2 : p.1.den = b) (h3 : p.2.num = c) (h4 : p.2.den = d) : p = ⟨⟨a, b⟩, ⟨c, d⟩⟩ := by subst h1; subst h2; subst h3; subst h4; rfl
noncomputable def s_laws_toPoint : Sig := ⟨35, [.val .pt], [.val .pt], fun ((a : Pt), _) => ⟨[], (a, ()), ()⟩⟩
theorem ok_laws_toPoint : GSpec Try.prog s_laws_toPoint := by
  refine fn_known tab_ok fol (Known.nil.cons ok_laws_toRat (by kernel_rfl)) (by decide) Try.func35 ?_
  rintro ⟨⟨⟨(n : Int), (d : Int)⟩, ⟨(m : Int), (e : Int)⟩⟩, ⟨⟩⟩ hl _
  repeat' (first | with_reducible apply andAll_cons | with_reducible apply andAll_nil | (with_reducible apply Cf.mk; kernel_rfl) | apply And.intro | intro _ | exact True.intro | apply Lf.mk)
  all_goals rfl
noncomputable def s_laws_eqPoint : Sig := ⟨40, [.val .pt, .val .pt], [.val .bool], fun ((a : Pt), (b : Pt), _) => ⟨[], (decide (a = b), ()), ()⟩⟩
theorem ok_laws_eqPoint : GSpec Try.prog s_laws_eqPoint := by
  refine fn_known tab_ok fol (Known.nil.cons ok_laws_eqRat (by kernel_rfl)) (by decide) Try.func40 ?_
  rintro ⟨⟨⟨(n : Int), (d : Int)⟩, ⟨(m : Int), (e : Int)⟩⟩, ⟨⟨(n' : Int), (d' : Int)⟩, ⟨(m' : Int), (e' : Int)⟩⟩, ⟨⟩⟩ hl _
  repeat' (first | with_reducible apply andAll_cons | with_reducible apply andAll_nil | (with_reducible apply Cf.mk; kernel_rfl) | apply And.intro | intro _ | exact True.intro | apply Lf.mk)
  all_goals (try simp only [Bool.not_eq_true', Bool.not_eq_false', Bool.not_not, decide_eq_true_eq, decide_eq_false_iff_not, beq_iff_eq, bne_iff_ne, beq_eq_false_iff_ne, bne_eq_false_iff_eq, ne_eq, Bool.and_eq_true, Bool.and_eq_false_iff, Bool.or_eq_true, Bool.or_eq_false_iff, Int.toNat_natCast, Nat.zero_add, Int.ofNat_lt, Int.ofNat_le, List.length_cons, List.length_nil, List.drop_zero, List.take_length] at *)
  all_goals (try change @Eq Bool _ _)
  all_goals simp_all
noncomputable def s_laws_eqPointS : Sig := ⟨9, [.list .pt, .list .pt], [.val .bool], fun ((a : List Pt), (b : List Pt), _) => ⟨[], (decide (a = b), ()), ()⟩⟩
theorem ok_laws_eqPointS : GSpec Try.prog s_laws_eqPointS := by
  refine fn_known tab_ok fol (Known.nil.cons ok_laws_eqPoint (by kernel_rfl)) (by decide) Try.func9 ?_
  rintro ⟨(a : List Pt), (b : List Pt), ⟨⟩⟩ ⟨hl, hl', _⟩ _
  have hl : a.length ≤ 9223372036854775807 := hl
  repeat' (first | with_reducible apply andAll_cons | with_reducible apply andAll_nil | (with_reducible apply Cf.mk; kernel_rfl) | apply And.intro | intro _ | exact True.intro | apply Lf.mk)
  all_goals (try simp only [Bool.not_eq_true', Bool.not_eq_false', Bool.not_not, decide_eq_true_eq, decide_eq_false_iff_not, beq_iff_eq, bne_iff_ne, beq_eq_false_iff_ne, bne_eq_false_iff_eq, ne_eq, Bool.and_eq_true, Bool.and_eq_false_iff, Bool.or_eq_true, Bool.or_eq_false_iff, Int.toNat_natCast, Nat.zero_add, Int.ofNat_lt, Int.ofNat_le, List.length_cons, List.length_nil, List.drop_zero, List.take_length] at *)
  · rename_i h; change false = decide (a = b); symm; rw [decide_eq_false_iff_not]; intro h2; apply h; rw [h2]
  · rename_i h
    have h : a.length = b.length := by omega
    refine ⟨Nat, fun i => ⟨[(5, .sc (.num .i64 i))], [100000, 100001], []⟩, fun i => i ≤ a.length ∧ a.take i = b.take i, fun i => a.length - i, ⟨0, ?_, ?_⟩, ?_⟩
    · exact ⟨Nat.zero_le _, rfl⟩
    · repeat' (first | apply And.intro | exact True.intro | exact Lf.mk (by with_reducible rfl) | apply Lf.mk)
      all_goals rfl
    · rintro i ⟨g1, g2⟩
      repeat' (first | with_reducible apply andAll_cons | with_reducible apply andAll_nil | (with_reducible apply Cf.mk; kernel_rfl) | apply And.intro | intro _ | exact True.intro | apply Lf.mk)
      all_goals (try simp only [Bool.not_eq_true', Bool.not_eq_false', Bool.not_not, decide_eq_true_eq, decide_eq_false_iff_not, beq_iff_eq, bne_iff_ne, beq_eq_false_iff_ne, bne_eq_false_iff_eq, ne_eq, Bool.and_eq_true, Bool.and_eq_false_iff, Bool.or_eq_true, Bool.or_eq_false_iff, Int.toNat_natCast, Nat.zero_add, Int.ofNat_lt, Int.ofNat_le, List.length_cons, List.length_nil, List.drop_zero, List.take_length] at *)
      all_goals first | omega | skip
      · rename_i h3 h4; change false = decide (a = b); symm; rw [decide_eq_false_iff_not]; intro h2; apply h4; rw [h2]
      · rename_i h3 h4
        refine ⟨i + 1, ⟨by omega, take_eq_succ VK.pt.dflt a b i h3 (by omega) g2 h4⟩, by omega, ?_⟩
        repeat' (first | apply And.intro | exact True.intro | exact Lf.mk (by with_reducible rfl) | apply Lf.mk)
        all_goals rfl
      · rename_i h3; change true = decide (a = b); symm; rw [decide_eq_true_eq]; exact eq_of_take h h3 g2
noncomputable def s_laws_toPointS : Sig := ⟨7, [.list .pt], [.list 57 .pt], fun ((l : List Pt), _) => ⟨[l.length ≤ 1000000000], (l, ()), ()⟩⟩
theorem ok_laws_toPointS : GSpec Try.prog s_laws_toPointS := by
  refine fn_known tab_ok fol (Known.nil.cons ok_laws_toPoint (by kernel_rfl)) (by decide) Try.func7 ?_
  rintro ⟨(l : List Pt), ⟨⟩⟩ ⟨hl, _⟩ ⟨h1, _⟩
  repeat' (first | with_reducible apply andAll_cons | with_reducible apply andAll_nil | (with_reducible apply Cf.mk; kernel_rfl) | apply And.intro | intro _ | exact True.intro | apply Lf.mk)
  all_goals (try simp only [Bool.not_eq_true', Bool.not_eq_false', Bool.not_not, decide_eq_true_eq, decide_eq_false_iff_not, beq_iff_eq, bne_iff_ne, beq_eq_false_iff_ne, bne_eq_false_iff_eq, ne_eq, Bool.and_eq_true, Bool.and_eq_false_iff, Bool.or_eq_true, Bool.or_eq_false_iff, Int.toNat_natCast, Nat.zero_add, Int.ofNat_lt, Int.ofNat_le, List.length_cons, List.length_nil, List.drop_zero, List.take_length] at *)
  all_goals first | omega | (show _ * 32 ≤ 140737488355328; omega) | skip
  refine ⟨Nat, fun i => ⟨[(4, .sc (.num .i64 i)), (3, .sc (.own 7))], [100000], [(7, .row 57 .pt ((List.range i).map (fun (i : Nat) => getA VK.pt.dflt l i) ++ (List.replicate l.length VK.pt.dflt).drop i))]⟩, fun i => i ≤ l.length, fun i => l.length - i, ⟨0, Nat.zero_le _, ?_⟩, ?_⟩
  · repeat' (first | apply And.intro | exact True.intro | exact Lf.mk (by with_reducible rfl) | apply Lf.mk)
    all_goals first | rfl | simp
  · rintro i g1
    have hm := mark_length (fun (i : Nat) => getA VK.pt.dflt l i) (List.replicate l.length VK.pt.dflt) i (by simpa using g1)
    simp only [List.length_replicate] at hm
    repeat' (first | with_reducible apply andAll_cons | with_reducible apply andAll_nil | (with_reducible apply Cf.mk; kernel_rfl) | apply And.intro | intro _ | exact True.intro | apply Lf.mk)
    all_goals (try simp only [Bool.not_eq_true', Bool.not_eq_false', Bool.not_not, decide_eq_true_eq, decide_eq_false_iff_not, beq_iff_eq, bne_iff_ne, beq_eq_false_iff_ne, bne_eq_false_iff_eq, ne_eq, Bool.and_eq_true, Bool.and_eq_false_iff, Bool.or_eq_true, Bool.or_eq_false_iff, Int.toNat_natCast, Nat.zero_add, Int.ofNat_lt, Int.ofNat_le, List.length_cons, List.length_nil, List.drop_zero, List.take_length] at *)
    all_goals first | omega | skip
    · rename_i h3
      refine ⟨i + 1, by omega, by omega, ?_⟩
      repeat' (first | apply And.intro | exact True.intro | exact Lf.mk (by with_reducible rfl) | apply Lf.mk)
      · rw [Int.natCast_add]; rfl
      · exact set_mark (fun (i : Nat) => getA VK.pt.dflt l i) _ i _ (by simpa using h3) rfl
    · rename_i h3
      rw [mark_end _ _ i (by simpa using h3) (by simpa using g1)]
      apply List.ext_getElem
      · simp
      · intro j h4 h5
        simp [getA_lt _ _ _ h5]
noncomputable def s_laws_szPointS : Sig := ⟨5, [.list .pt, .val NI], [.val NI], fun ((l : List Pt), (left : Int), _) => ⟨[0 ≤ left, left ≤ 4000000000000000000], ((if left - l.length < 0 then -1 else left - l.length : Int), ()), ()⟩⟩
theorem ok_laws_szPointS : GSpec Try.prog s_laws_szPointS := by
  refine fn_known tab_ok fol Known.nil (by decide) Try.func5 ?_
  rintro ⟨(l : List Pt), (left : Int), ⟨⟩⟩ ⟨hl, _⟩ ⟨h1, h2, _⟩
  have hl : l.length ≤ 9223372036854775807 := hl
  repeat' (first | with_reducible apply andAll_cons | with_reducible apply andAll_nil | (with_reducible apply Cf.mk; kernel_rfl) | apply And.intro | intro _ | exact True.intro | apply Lf.mk)
  all_goals (try simp only [Bool.not_eq_true', Bool.not_eq_false', Bool.not_not, decide_eq_true_eq, decide_eq_false_iff_not, beq_iff_eq, bne_iff_ne, beq_eq_false_iff_ne, bne_eq_false_iff_eq, ne_eq, Bool.and_eq_true, Bool.and_eq_false_iff, Bool.or_eq_true, Bool.or_eq_false_iff, Int.toNat_natCast, Nat.zero_add, Int.ofNat_lt, Int.ofNat_le, List.length_cons, List.length_nil, List.drop_zero, List.take_length] at *)
  all_goals first | omega | (rw [if_pos (by assumption)]; done) | (rw [if_neg (by assumption)]; done) | trace_state

def mkIv (k : Int) (n : Nat) : List Iv := (List.range n).map fun (i : Nat) => (⟨⟨k + 4 * (i : Int), k + 4 * (i : Int) + 1⟩, ⟨k + 4 * (i : Int) + 2, k + 4 * (i : Int) + 3⟩⟩ : Iv)
theorem mkIv_length (k : Int) (n : Nat) : (mkIv k n).length = n := by simp [mkIv]
theorem Iv_ext4 (p : Iv) {a b c d : Int} (h1 : p.1.num = a) (h2 : p.1.den = b) (h3 : p.2.num = c) (h4 : p.2.den = d) : p = ⟨⟨a, b⟩, ⟨c, d⟩⟩ := by subst h1; subst h2; subst h3; subst h4; rfl

end Go.Vx
