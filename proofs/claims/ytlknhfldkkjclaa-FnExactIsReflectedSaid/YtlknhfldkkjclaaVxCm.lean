/- Conjugate maps: the program's function and the reference's. -/
import Derived.Test.YtlknhfldkkjclaaVpCm
import Derived.Test.YtlknhfldkkjclaaVxIc
namespace Go.Vx
open Go Go.Proofs
set_option maxRecDepth 100000
set_option linter.unusedSimpArgs false
set_option linter.unusedVariables false

noncomputable def s_impl_slopes_ : Sig := ⟨87, [.list .pt], [.list 36 .rat], fun ((f : List Pt), _) => ⟨[2 ≤ f.length, f.length ≤ 1000, rsOk f], (slL f (f.length - 1), ()), ()⟩⟩
theorem ok_impl_slopes_ : GSpec Try.prog s_impl_slopes_ := by
  refine fn_known tab_ok fol (Known.nil.cons ok_calc_slope (by kernel_rfl)) (by decide) Try.func87 ?_
  rintro ⟨(f : List Pt), ⟨⟩⟩ ⟨hl, _⟩ ⟨l1, l2, h1, _⟩
  have l1 : 2 ≤ f.length := l1
  have l2 : f.length ≤ 1000 := l2
  refine ⟨Nat, fun i => ⟨[(5, .sc (.num .i64 ((i : Int) + 1))), (4, .sc (.own 7777777))], [100000], [(7777777, .row 36 .rat (slL f i)), (3, .box cT [.bool false])]⟩, fun i => i + 1 ≤ f.length, fun i => f.length - i, ⟨0, by omega, ?_⟩, ?_⟩
  · repeat' (first | apply And.intro | exact True.intro | exact Lf.mk (by with_reducible rfl) | apply Lf.mk)
    all_goals first | rfl | simp
  · intro i g1
    have hm := slL_length f i
    repeat' (first | with_reducible apply andAll_cons | with_reducible apply andAll_nil | (with_reducible apply Cf.mk; kernel_rfl) | apply And.intro | intro _ | exact True.intro | apply Lf.mk)
    all_goals simp only [hm] at *
    all_goals (try simp only [Bool.not_eq_true', Bool.not_eq_false', Bool.not_not, decide_eq_true_eq, decide_eq_false_iff_not, beq_iff_eq, bne_iff_ne, beq_eq_false_iff_ne, bne_eq_false_iff_eq, ne_eq, Bool.and_eq_true, Bool.and_eq_false_iff, Bool.or_eq_true, Bool.or_eq_false_iff, Int.toNat_natCast, Nat.zero_add, Int.ofNat_lt, Int.ofNat_le, List.length_cons, List.length_nil, List.drop_zero, List.take_length] at *)
    all_goals (try simp only [show ((i : Int) + 1 - 1).toNat = i by omega, show ((i : Int) + 1).toNat = i + 1 by omega] at *)
    all_goals first
      | omega
      | exact rs_pt h1 (by omega)
      | exact rs_lt h1 (by omega)
      | (show (_ + 1) * 16 ≤ 140737488355328; omega)
      | (rw [show i = f.length - 1 by omega]; done)
      | skip
    refine ⟨i + 1, by omega, by omega, ?_⟩
    repeat' (first | apply And.intro | exact True.intro | exact Lf.mk (by with_reducible rfl) | apply Lf.mk)
    all_goals first | rfl | (rw [Int.natCast_add]; rfl) | exact slL_succ f i
theorem slL_get {f : List Pt} {n i : Nat} (hi : i < n) : getA zR (slL f n) i = slR (getA zP f i) (getA zP f (i + 1)) := by
  unfold slL
  rw [getA_eq]; simp [List.getD, hi]
noncomputable def s_impl_simple : Sig := ⟨39, [.list .pt], [.list 57 .pt], fun ((f : List Pt), _) => ⟨[2 ≤ f.length, f.length ≤ 1000, rsOk f], (smL f, ()), ()⟩⟩
theorem ok_impl_simple : GSpec Try.prog s_impl_simple := by
  refine fn_known tab_ok fol (Known.nil.cons ok_impl_slopes_ (by kernel_rfl)) (by decide) Try.func39 ?_
  rintro ⟨(f : List Pt), ⟨⟩⟩ ⟨hl, _⟩ ⟨l1, l2, h1, _⟩
  have l1 : 2 ≤ f.length := l1
  have l2 : f.length ≤ 1000 := l2
  have l3 := slL_length f (f.length - 1)
  repeat' (first | with_reducible apply andAll_cons | with_reducible apply andAll_nil | (with_reducible apply Cf.mk; kernel_rfl) | apply And.intro | intro _ | exact True.intro | apply Lf.mk)
  all_goals (try simp only [Bool.not_eq_true', Bool.not_eq_false', Bool.not_not, decide_eq_true_eq, decide_eq_false_iff_not, beq_iff_eq, bne_iff_ne, beq_eq_false_iff_ne, bne_eq_false_iff_eq, ne_eq, Bool.and_eq_true, Bool.and_eq_false_iff, Bool.or_eq_true, Bool.or_eq_false_iff, Int.toNat_natCast, Nat.zero_add, Int.ofNat_lt, Int.ofNat_le, List.length_cons, List.length_nil, List.drop_zero, List.take_length] at *)
  all_goals first | omega | exact h1 | skip
  refine ⟨Nat, fun i => ⟨[(5, .sc (.num .i64 ((i : Int) + 1))), (4, .sc (.own 7777777))], [100000, 200070], [(7777777, .row 57 .pt (smK f i))]⟩, fun i => i + 2 ≤ f.length, fun i => f.length - i, ⟨0, l1, ?_⟩, ?_⟩
  · have e := smK_zero f
    repeat' (first | apply And.intro | exact True.intro | exact Lf.mk (by with_reducible rfl) | apply Lf.mk)
    all_goals first | rfl | exact e.symm | trace_state
  · rintro i g1
    have g1 : i + 2 ≤ f.length := g1
    have q1 := smK_len f i
    have q2 := smK_succ f i
    have e1 : ((i : Int) + 1 - 1).toNat = i := by omega
    have e2 : ((i : Int) + 1).toNat = i + 1 := by omega
    have e3 : ((f.length : Int) - 1).toNat = f.length - 1 := by omega
    repeat' (first | with_reducible apply andAll_cons | with_reducible apply andAll_nil | (with_reducible apply Cf.mk; kernel_rfl) | apply And.intro | intro _ | exact True.intro | apply Lf.mk)
    all_goals (try simp only [e1, e2, e3] at *)
    all_goals (try simp only [Bool.not_eq_true', Bool.not_eq_false', Bool.not_not, decide_eq_true_eq, decide_eq_false_iff_not, beq_iff_eq, bne_iff_ne, beq_eq_false_iff_ne, bne_eq_false_iff_eq, ne_eq, Bool.and_eq_true, Bool.and_eq_false_iff, Bool.or_eq_true, Bool.or_eq_false_iff, Int.toNat_natCast, Nat.zero_add, Int.ofNat_lt, Int.ofNat_le, List.length_cons, List.length_nil, List.drop_zero, List.take_length] at *)
    all_goals first | omega | (show (_ + 1) * 32 ≤ 140737488355328; omega) | skip
    · rename_i h5 h6
      have h7 : eqRt (getA zR (slL f (f.length - 1)) i) (getA zR (slL f (f.length - 1)) (i + 1)) = false := h6
      rw [slL_get (by omega), slL_get (by omega)] at h7
      rw [smI_t (.inr (by rw [smT_succ, h7]; rfl))] at q2
      refine ⟨i + 1, by omega, by omega, ?_⟩
      repeat' (first | apply And.intro | exact True.intro | exact Lf.mk (by with_reducible rfl) | apply Lf.mk)
      all_goals first | rfl | exact q2.symm | (rw [Int.natCast_add]; rfl) | trace_state
    · rename_i h5 h6
      have h7 : eqRt (getA zR (slL f (f.length - 1)) i) (getA zR (slL f (f.length - 1)) (i + 1)) = true := h6
      rw [slL_get (by omega), slL_get (by omega)] at h7
      rw [smI_f (by omega) (by rw [smT_succ, h7]; rfl), List.append_nil] at q2
      refine ⟨i + 1, by omega, by omega, ?_⟩
      repeat' (first | apply And.intro | exact True.intro | exact Lf.mk (by with_reducible rfl) | apply Lf.mk)
      all_goals first | rfl | exact q2.symm | (rw [Int.natCast_add]; rfl) | trace_state
    · rw [smI_t (.inl (by omega))] at q2
      unfold smL
      rw [show f.length - 1 = i + 1 by omega]
      exact q2.symm
noncomputable def s_spec_imSimple : Sig := ⟨34, [.list .pt], [.list 57 .pt], fun ((f : List Pt), _) => ⟨[2 ≤ f.length, f.length ≤ 1000, rsOk f], (smL f, ()), ()⟩⟩
theorem ok_spec_imSimple : GSpec Try.prog s_spec_imSimple := by
  refine fn_known tab_ok fol (Known.nil.cons ok_spec_imSlope (by kernel_rfl)) (by decide) Try.func34 ?_
  rintro ⟨(f : List Pt), ⟨⟩⟩ ⟨hl, _⟩ ⟨l1, l2, h1, _⟩
  have l1 : 2 ≤ f.length := l1
  have l2 : f.length ≤ 1000 := l2
  repeat' (first | with_reducible apply andAll_cons | with_reducible apply andAll_nil | (with_reducible apply Cf.mk; kernel_rfl) | apply And.intro | intro _ | exact True.intro | apply Lf.mk)
  all_goals first | omega | skip
  refine ⟨Nat, fun i => ⟨[(4, .sc (.num .i64 ((i : Int) + 1))), (3, .sc (.own 7777777))], [100000], [(7777777, .row 57 .pt (smK f i))]⟩, fun i => i + 1 ≤ f.length, fun i => f.length - i, ⟨0, by omega, ?_⟩, ?_⟩
  · have e := smK_zero f
    repeat' (first | apply And.intro | exact True.intro | exact Lf.mk (by with_reducible rfl) | apply Lf.mk)
    all_goals first | rfl | exact e.symm | trace_state
  · rintro i g1
    have g1 : i + 1 ≤ f.length := g1
    have q1 := smK_len f i
    have q2 := smK_succ f i
    have e1 : ((i : Int) + 1 - 1).toNat = i := by omega
    have e2 : ((i : Int) + 1).toNat = i + 1 := by omega
    have e3 : ((i : Int) + 1 + 1).toNat = i + 1 + 1 := by omega
    repeat' (first | with_reducible apply andAll_cons | with_reducible apply andAll_nil | (with_reducible apply Cf.mk; kernel_rfl) | apply And.intro | intro _ | exact True.intro | apply Lf.mk)
    all_goals (try simp only [e1, e2, e3] at *)
    all_goals (try simp only [Bool.not_eq_true', Bool.not_eq_false', Bool.not_not, decide_eq_true_eq, decide_eq_false_iff_not, beq_iff_eq, bne_iff_ne, beq_eq_false_iff_ne, bne_eq_false_iff_eq, ne_eq, Bool.and_eq_true, Bool.and_eq_false_iff, Bool.or_eq_true, Bool.or_eq_false_iff, Int.toNat_natCast, Nat.zero_add, Int.ofNat_lt, Int.ofNat_le, List.length_cons, List.length_nil, List.drop_zero, List.take_length] at *)
    all_goals first | omega | exact rs_pt h1 (by omega) | exact rs_lt h1 (by omega) | (show (_ + 1) * 32 ≤ 140737488355328; omega) | skip
    · rename_i h4 h5 h6
      rw [beq_eq_false_iff_ne.2 h5, cond_false] at h6
      have h7 : smT f (i + 1) = true := h6
      rw [smI_t (.inr h7)] at q2
      refine ⟨i + 1, by omega, by omega, ?_⟩
      repeat' (first | apply And.intro | exact True.intro | exact Lf.mk (by with_reducible rfl) | apply Lf.mk)
      all_goals first | rfl | exact q2.symm | (rw [Int.natCast_add]; rfl) | trace_state
    · rename_i h4 h5 h6
      rw [beq_eq_false_iff_ne.2 h5, cond_false] at h6
      have h7 : smT f (i + 1) = false := h6
      rw [smI_f (by omega) h7, List.append_nil] at q2
      refine ⟨i + 1, by omega, by omega, ?_⟩
      repeat' (first | apply And.intro | exact True.intro | exact Lf.mk (by with_reducible rfl) | apply Lf.mk)
      all_goals first | rfl | exact q2.symm | (rw [Int.natCast_add]; rfl) | trace_state
    · rename_i h4 h5
      rw [smI_t (.inl (by omega))] at q2
      refine ⟨i + 1, by omega, by omega, ?_⟩
      repeat' (first | apply And.intro | exact True.intro | exact Lf.mk (by with_reducible rfl) | apply Lf.mk)
      all_goals first | rfl | exact q2.symm | (rw [Int.natCast_add]; rfl) | trace_state
    · exact absurd ‹true = false› Bool.noConfusion
    · unfold smL
      rw [show f.length - 1 = i by omega]
end Go.Vx
