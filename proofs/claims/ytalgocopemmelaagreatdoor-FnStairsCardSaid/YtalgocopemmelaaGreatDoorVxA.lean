/- The functions on fractions keep their contracts: what each returns, said in plain arithmetic. -/
import Derived.Test.YtalgocopemmelaaGreatDoorVxTab
import Derived.Test.YtalgocopemmelaaGreatDoorVpBase
namespace Go.Vx
open Go Go.Proofs
set_option maxRecDepth 100000
set_option linter.unusedSimpArgs false
set_option linter.unusedVariables false

abbrev NI : VK := .num .i64
noncomputable def s_impl_abs : Sig := ⟨100, [.val NI], [.val NI], fun ((a : Int), _) => ⟨[-9223372036854775808 < a], ((a.natAbs : Int), ()), ()⟩⟩
noncomputable def s_impl_within : Sig := ⟨45, [.val NI, .val NI, .val NI], [.val .bool], fun ((n : Int), (lo : Int), (hi : Int), _) => ⟨[], (inB n lo hi, ()), ()⟩⟩
noncomputable def s_spec_l1In : Sig := ⟨49, [.val NI, .val NI, .val NI], [.val .bool], fun ((n : Int), (lo : Int), (hi : Int), _) => ⟨[], (inB n lo hi, ()), ()⟩⟩
noncomputable def s_spec_l1Most : Sig := ⟨43, [.val NI, .val NI], [.val NI], fun ((a : Int), (b : Int), _) => ⟨[], ((max a b : Int), ()), ()⟩⟩
noncomputable def s_spec_l1Abs : Sig := ⟨76, [.val NI], [.val NI], fun ((a : Int), _) => ⟨[-9223372036854775808 < a, a ≤ 9223372036854775807], ((a.natAbs : Int), ()), ()⟩⟩
noncomputable def s_spec_l1Sign : Sig := ⟨60, [.val NI], [.val NI], fun ((a : Int), _) => ⟨[], (sgn a, ()), ()⟩⟩
noncomputable def s_impl_greatestDivisor : Sig := ⟨90, [.val NI, .val NI], [.val NI], fun ((a : Int), (b : Int), _) => ⟨[-9223372036854775808 < a, -9223372036854775808 < b, a ≤ 9223372036854775807, b ≤ 9223372036854775807], ((Int.gcd a b : Int), ()), ()⟩⟩
noncomputable def s_spec_raCommon : Sig := ⟨75, [.val NI, .val NI], [.val NI], fun ((a : Int), (b : Int), _) => ⟨[0 ≤ a, 0 ≤ b, a ≤ 9223372036854775807, b ≤ 9223372036854775807], ((Int.gcd a b : Int), ()), ()⟩⟩
noncomputable def s_impl_isRat : Sig := ⟨74, [.val .rat], [.val .bool], fun ((r : Rt), _) => ⟨[], (goodRt r, ()), ()⟩⟩
noncomputable def s_spec_raGood : Sig := ⟨55, [.val .rat], [.val .bool], fun ((r : Rt), _) => ⟨[], (goodRt r, ()), ()⟩⟩
noncomputable def s_impl_compare : Sig := ⟨35, [.val .rat, .val .rat], [.val NI], fun ((a : Rt), (b : Rt), _) => ⟨[goodRt a = true, goodRt b = true], (cmpRt a b, ()), ()⟩⟩
noncomputable def s_spec_raCmp : Sig := ⟨36, [.val .rat, .val .rat], [.val NI], fun ((a : Rt), (b : Rt), _) => ⟨[goodRt a = true, goodRt b = true], (cmpRt a b, ()), ()⟩⟩
noncomputable def s_impl_less : Sig := ⟨61, [.val .rat, .val .rat], [.val .bool], fun ((a : Rt), (b : Rt), _) => ⟨[goodRt a = true, goodRt b = true], (lessRt a b, ()), ()⟩⟩
noncomputable def s_impl_areRats : Sig := ⟨54, [.list .rat], [.val .bool], fun ((l : List Rt), _) => ⟨[], (l.all goodRt, ()), ()⟩⟩

theorem ok_impl_abs : GSpec Tryz.prog s_impl_abs := by
  refine fn_known tab_ok fol Known.nil (by decide) Tryz.func100 ?_
  rintro ⟨(a : Int), ⟨⟩⟩ hl ⟨h1, _⟩
  repeat' (first | with_reducible apply andAll_cons | with_reducible apply andAll_nil | (with_reducible apply Cf.mk; kernel_rfl) | apply And.intro | intro _ | exact True.intro | apply Lf.mk)
  all_goals simp only [decide_eq_true_eq, decide_eq_false_iff_not, inI64] at *
  all_goals (try change @Eq Int _ _)
  all_goals omega

theorem ok_impl_within : GSpec Tryz.prog s_impl_within := by
  refine fn_known tab_ok fol Known.nil (by decide) Tryz.func45 ?_
  rintro ⟨(n : Int), (lo : Int), (hi : Int), ⟨⟩⟩ hl _
  repeat' (first | with_reducible apply andAll_cons | with_reducible apply andAll_nil | (with_reducible apply Cf.mk; kernel_rfl) | apply And.intro | intro _ | exact True.intro | apply Lf.mk)
  all_goals (try change @Eq Bool _ _)
  all_goals simp_all [inB]
  all_goals omega

theorem ok_spec_l1In : GSpec Tryz.prog s_spec_l1In := by
  refine fn_known tab_ok fol Known.nil (by decide) Tryz.func49 ?_
  rintro ⟨(n : Int), (lo : Int), (hi : Int), ⟨⟩⟩ hl _
  repeat' (first | with_reducible apply andAll_cons | with_reducible apply andAll_nil | (with_reducible apply Cf.mk; kernel_rfl) | apply And.intro | intro _ | exact True.intro | apply Lf.mk)
  all_goals (try change @Eq Bool _ _)
  all_goals simp_all [inB]
  all_goals omega

theorem ok_spec_l1Most : GSpec Tryz.prog s_spec_l1Most := by
  refine fn_known tab_ok fol Known.nil (by decide) Tryz.func43 ?_
  rintro ⟨(a : Int), (b : Int), ⟨⟩⟩ hl _
  repeat' (first | with_reducible apply andAll_cons | with_reducible apply andAll_nil | (with_reducible apply Cf.mk; kernel_rfl) | apply And.intro | intro _ | exact True.intro | apply Lf.mk)
  all_goals simp only [decide_eq_true_eq, decide_eq_false_iff_not, inI64] at *
  all_goals (try change @Eq Int _ _)
  all_goals omega

theorem ok_spec_l1Abs : GSpec Tryz.prog s_spec_l1Abs := by
  refine fn_known tab_ok fol (Known.nil.cons ok_spec_l1Most (by kernel_rfl)) (by decide) Tryz.func76 ?_
  rintro ⟨(a : Int), ⟨⟩⟩ hl ⟨h1, h2, _⟩
  repeat' (first | with_reducible apply andAll_cons | with_reducible apply andAll_nil | (with_reducible apply Cf.mk; kernel_rfl) | apply And.intro | intro _ | exact True.intro | apply Lf.mk)
  all_goals (try change @Eq Int _ _)
  all_goals omega

theorem ok_spec_l1Sign : GSpec Tryz.prog s_spec_l1Sign := by
  refine fn_known tab_ok fol Known.nil (by decide) Tryz.func60 ?_
  rintro ⟨(a : Int), ⟨⟩⟩ hl _
  repeat' (first | with_reducible apply andAll_cons | with_reducible apply andAll_nil | (with_reducible apply Cf.mk; kernel_rfl) | apply And.intro | intro _ | exact True.intro | apply Lf.mk)
  all_goals simp only [decide_eq_true_eq, decide_eq_false_iff_not] at *
  all_goals (try change @Eq Int _ _)
  all_goals (unfold sgn; split <;> first | omega | (split <;> omega))

theorem ok_impl_greatestDivisor : GSpec Tryz.prog s_impl_greatestDivisor := by
  refine fn_known tab_ok fol (Known.nil.cons ok_impl_abs (by kernel_rfl)) (by decide) Tryz.func90 ?_
  rintro ⟨(a : Int), (b : Int), ⟨⟩⟩ hl ⟨h1, h2, h3, h4, _⟩
  repeat' (first | with_reducible apply andAll_cons | with_reducible apply andAll_nil | (with_reducible apply Cf.mk; kernel_rfl) | apply And.intro | intro _ | exact True.intro | apply Lf.mk)
  · exact h1
  · exact h2
  · refine ⟨Int × Int, fun x => ⟨[(0, .sc (.num .i64 x.1)), (1, .sc (.num .i64 x.2))], [], []⟩, fun x => 0 ≤ x.1 ∧ 0 ≤ x.2 ∧ Int.gcd x.1 x.2 = Int.gcd a b ∧ x.1 ≤ 9223372036854775807 ∧ x.2 ≤ 9223372036854775807, fun x => x.2.natAbs, ⟨((a.natAbs : Int), (b.natAbs : Int)), ?_, ?_⟩, ?_⟩
    · exact ⟨by dsimp only; omega, by dsimp only; omega, rfl, by dsimp only; omega, by dsimp only; omega⟩
    · repeat' (first | apply And.intro | exact True.intro | exact Lf.mk (by with_reducible rfl) | apply Lf.mk)
      all_goals rfl
    · rintro ⟨p, q⟩ ⟨g1, g2, g3, g4, g5⟩
      repeat' (first | with_reducible apply andAll_cons | with_reducible apply andAll_nil | (with_reducible apply Cf.mk; kernel_rfl) | apply And.intro | intro _ | exact True.intro | apply Lf.mk)
      · simp_all
      · have := Int.tmod_nonneg q g1
        have := Int.tmod_lt_of_pos p (b := q) (by simp only [bne_iff_ne] at *; omega)
        refine ⟨(q, p.tmod q), ?_, ?_, ?_⟩
        · simp only [gcd_tmod] at *
          omega
        · simp only at *
          omega
        · repeat' (first | apply And.intro | exact True.intro | exact Lf.mk (by with_reducible rfl) | apply Lf.mk)
          all_goals rfl
      · change @Eq Int _ _
        simp_all
        omega

theorem ok_spec_raCommon : GSpec Tryz.prog s_spec_raCommon := by
  refine fn_known tab_ok fol Known.nil (by decide) Tryz.func75 ?_
  rintro ⟨(a : Int), (b : Int), ⟨⟩⟩ hl ⟨h1, h2, h3, h4, _⟩
  refine ⟨Int × Int, fun x => ⟨[(0, .sc (.num .i64 x.1)), (1, .sc (.num .i64 x.2))], [], []⟩, fun x => 0 ≤ x.1 ∧ 0 ≤ x.2 ∧ Int.gcd x.1 x.2 = Int.gcd a b ∧ x.1 ≤ 9223372036854775807 ∧ x.2 ≤ 9223372036854775807, fun x => x.2.natAbs, ⟨(a, b), ?_, ?_⟩, ?_⟩
  · exact ⟨h1, h2, rfl, h3, h4⟩
  · repeat' (first | apply And.intro | exact True.intro | exact Lf.mk (by with_reducible rfl) | apply Lf.mk)
    all_goals rfl
  · rintro ⟨p, q⟩ ⟨g1, g2, g3, g4, g5⟩
    repeat' (first | with_reducible apply andAll_cons | with_reducible apply andAll_nil | (with_reducible apply Cf.mk; kernel_rfl) | apply And.intro | intro _ | exact True.intro | apply Lf.mk)
    · simp only [decide_eq_true_eq] at *; omega
    · have h5 : 0 < q := by simp only [decide_eq_true_eq] at *; assumption
      have := Int.tmod_nonneg q g1
      have := Int.tmod_lt_of_pos p h5
      refine ⟨(q, p.tmod q), ?_, ?_, ?_⟩
      · simp only [gcd_tmod] at *
        omega
      · simp only at *
        omega
      · repeat' (first | apply And.intro | exact True.intro | exact Lf.mk (by with_reducible rfl) | apply Lf.mk)
        all_goals rfl
    · change @Eq Int _ _
      simp only [decide_eq_false_iff_not] at *
      have : q = 0 := by omega
      subst this
      rw [← g3]
      simp
      omega

theorem goodT {n d : Int} (h1 : 1 ≤ d ∧ d ≤ 1000000000) (h2 : -1000000000 ≤ n ∧ n ≤ 1000000000) : (((Int.gcd n d : Int)) == 1) = goodRt ⟨n, d⟩ := by
  rw [Bool.eq_iff_iff, goodRt_iff, beq_iff_eq]; dsimp only; omega
theorem goodF {n d : Int} (h : ¬ ((1 ≤ d ∧ d ≤ 1000000000) ∧ (-1000000000 ≤ n ∧ n ≤ 1000000000))) : false = goodRt ⟨n, d⟩ := by
  symm; rw [Bool.eq_false_iff, ne_eq, goodRt_iff]; dsimp only; omega

theorem ok_impl_isRat : GSpec Tryz.prog s_impl_isRat := by
  refine fn_known tab_ok fol ((Known.nil.cons ok_impl_within (by kernel_rfl)).cons ok_impl_greatestDivisor (by kernel_rfl)) (by decide) Tryz.func74 ?_
  rintro ⟨⟨(n : Int), (d : Int)⟩, ⟨⟩⟩ hl _
  repeat' (first | with_reducible apply andAll_cons | with_reducible apply andAll_nil | (with_reducible apply Cf.mk; kernel_rfl) | apply And.intro | intro _ | exact True.intro | apply Lf.mk)
  all_goals simp only [inB, decide_eq_true_eq, decide_eq_false_iff_not] at *
  all_goals first | omega | exact goodT (by omega) (by omega) | exact goodF (by omega)

theorem ok_spec_raGood : GSpec Tryz.prog s_spec_raGood := by
  refine fn_known tab_ok fol (((Known.nil.cons ok_spec_l1In (by kernel_rfl)).cons ok_spec_l1Abs (by kernel_rfl)).cons ok_spec_raCommon (by kernel_rfl)) (by decide) Tryz.func55 ?_
  rintro ⟨⟨(n : Int), (d : Int)⟩, ⟨⟩⟩ hl _
  have hg : Int.gcd ((n.natAbs : Int)) d = Int.gcd n d := by simp [Int.gcd]
  repeat' (first | with_reducible apply andAll_cons | with_reducible apply andAll_nil | (with_reducible apply Cf.mk; kernel_rfl) | apply And.intro | intro _ | exact True.intro | apply Lf.mk)
  all_goals (by_cases h1 : 1 ≤ d ∧ d ≤ 1000000000 <;> by_cases h2 : -1000000000 ≤ n ∧ n ≤ 1000000000)
  all_goals (simp_all only [inB, decide_true, decide_false, cond_true, cond_false, and_self, Bool.false_eq_true, reduceCtorEq])
  all_goals first | omega | exact goodT h1 h2 | exact goodT (by omega) (by omega) | exact goodF (by omega)

def smallRt (r : Rt) : Bool := decide (1 ≤ r.den ∧ r.den ≤ 1000000000 ∧ -1000000000 ≤ r.num ∧ r.num ≤ 1000000000)
theorem small_good {r : Rt} (h : goodRt r = true) : smallRt r = true := by
  rw [goodRt_iff] at h; simp [smallRt]; omega
theorem small_mk {r : Rt} (h : 1 ≤ r.den ∧ r.den ≤ 1000000000 ∧ -1000000000 ≤ r.num ∧ r.num ≤ 1000000000) : smallRt r = true := by simp [smallRt]; omega
theorem smallmul {a b : Rt} (ha : smallRt a = true) (hb : smallRt b = true) : -1000000000000000000 ≤ a.num * b.den ∧ a.num * b.den ≤ 1000000000000000000 := by
  simp only [smallRt, decide_eq_true_eq] at ha hb
  have := mul_bd (A := 1000000000) (B := 1000000000) (a := a.num) (b := b.den) (by omega) (by omega) (by omega) (by omega) (by omega)
  simpa using this
noncomputable def s_impl_compare_ : Sig := ⟨35, [.val .rat, .val .rat], [.val NI], fun ((a : Rt), (b : Rt), _) => ⟨[smallRt a = true, smallRt b = true], (cmpRt a b, ()), ()⟩⟩
noncomputable def s_impl_less_ : Sig := ⟨61, [.val .rat, .val .rat], [.val .bool], fun ((a : Rt), (b : Rt), _) => ⟨[smallRt a = true, smallRt b = true], (lessRt a b, ()), ()⟩⟩

theorem ok_impl_compare_ : GSpec Tryz.prog s_impl_compare_ := by
  refine fn_known tab_ok fol Known.nil (by decide) Tryz.func35 ?_
  rintro ⟨⟨(n : Int), (d : Int)⟩, ⟨(m : Int), (e : Int)⟩, ⟨⟩⟩ hl ⟨h1, h2, _⟩
  have b1 := smallmul h1 h2
  have b2 := smallmul h2 h1
  dsimp only at b1 b2
  repeat' (first | with_reducible apply andAll_cons | with_reducible apply andAll_nil | (with_reducible apply Cf.mk; kernel_rfl) | apply And.intro | intro _ | exact True.intro | apply Lf.mk)
  all_goals first | omega | skip
  all_goals simp only [decide_eq_true_eq, decide_eq_false_iff_not] at *
  · change (-1 : Int) = if n * e - m * d < 0 then -1 else if 0 < n * e - m * d then 1 else 0
    rw [if_pos (by omega)]
  · change (1 : Int) = if n * e - m * d < 0 then -1 else if 0 < n * e - m * d then 1 else 0
    rw [if_neg (by omega), if_pos (by omega)]
  · change (0 : Int) = if n * e - m * d < 0 then -1 else if 0 < n * e - m * d then 1 else 0
    rw [if_neg (by omega), if_neg (by omega)]
theorem ok_impl_compare : GSpec Tryz.prog s_impl_compare :=
  GSpec.imp ok_impl_compare_ fun (_, _, _) ⟨h1, h2, _⟩ => ⟨⟨small_good h1, small_good h2, trivial⟩, rfl, rfl⟩

theorem ok_spec_raCmp : GSpec Tryz.prog s_spec_raCmp := by
  refine fn_known tab_ok fol (Known.nil.cons ok_spec_l1Sign (by kernel_rfl)) (by decide) Tryz.func36 ?_
  rintro ⟨⟨(n : Int), (d : Int)⟩, ⟨(m : Int), (e : Int)⟩, ⟨⟩⟩ hl ⟨h1, h2, _⟩
  have b1 := ratmul h1 h2
  have b2 := ratmul h2 h1
  dsimp only at b1 b2
  repeat' (first | with_reducible apply andAll_cons | with_reducible apply andAll_nil | (with_reducible apply Cf.mk; kernel_rfl) | apply And.intro | intro _ | exact True.intro | apply Lf.mk)
  all_goals first | omega | rfl

theorem sgn_neg {n : Int} : (sgn n < 0) ↔ n < 0 := by
  unfold sgn; split
  · omega
  · split <;> omega

theorem ok_impl_less_ : GSpec Tryz.prog s_impl_less_ := by
  refine fn_known tab_ok fol (Known.nil.cons ok_impl_compare_ (by kernel_rfl)) (by decide) Tryz.func61 ?_
  rintro ⟨⟨(n : Int), (d : Int)⟩, ⟨(m : Int), (e : Int)⟩, ⟨⟩⟩ hl ⟨h1, h2, _⟩
  repeat' (first | with_reducible apply andAll_cons | with_reducible apply andAll_nil | (with_reducible apply Cf.mk; kernel_rfl) | apply And.intro | intro _ | exact True.intro | apply Lf.mk)
  · exact h1
  · exact h2
  · change decide (cmpRt _ _ < 0) = lessRt _ _
    unfold lessRt cmpRt
    rw [Bool.eq_iff_iff, decide_eq_true_eq, decide_eq_true_eq, sgn_neg]
    omega
theorem ok_impl_less : GSpec Tryz.prog s_impl_less :=
  GSpec.imp ok_impl_less_ fun (_, _, _) ⟨h1, h2, _⟩ => ⟨⟨small_good h1, small_good h2, trivial⟩, rfl, rfl⟩

theorem cmp_less (a b : Rt) : decide (cmpRt a b < 0) = lessRt a b := by
  unfold lessRt cmpRt
  rw [Bool.eq_iff_iff, decide_eq_true_eq, decide_eq_true_eq, sgn_neg]
  omega

theorem all_take_succ {α : Type} (p : α → Bool) (d : α) (l : List α) (i : Nat) (h : i < l.length) : (l.take (i + 1)).all p = ((l.take i).all p && p (getA d l i)) := by
  rw [getA_eq, List.take_add_one, List.all_append]
  simp [List.getD, h]
theorem all_false_of {α : Type} (p : α → Bool) (d : α) (l : List α) (i : Nat) (h : i < l.length) (hp : p (getA d l i) = false) : l.all p = false := by
  rw [getA_eq] at hp
  rw [List.all_eq_false]
  exact ⟨l[i], List.getElem_mem h, by simp [List.getD, h] at hp; simp [hp]⟩

theorem ok_impl_areRats : GSpec Tryz.prog s_impl_areRats := by
  refine fn_known tab_ok fol (Known.nil.cons ok_impl_isRat (by kernel_rfl)) (by decide) Tryz.func54 ?_
  rintro ⟨(l : List Rt), ⟨⟩⟩ ⟨hl, _⟩ _
  have hl : l.length ≤ 9223372036854775807 := hl
  refine ⟨Nat, fun i => ⟨[(7, .sc (.num .i64 i))], [100000], []⟩, fun i => i ≤ l.length ∧ (l.take i).all goodRt = true, fun i => l.length - i, ⟨0, ?_, ?_⟩, ?_⟩
  · exact ⟨Nat.zero_le _, rfl⟩
  · repeat' (first | apply And.intro | exact True.intro | exact Lf.mk (by with_reducible rfl) | apply Lf.mk)
    all_goals rfl
  · rintro i ⟨g1, g2⟩
    repeat' (first | with_reducible apply andAll_cons | with_reducible apply andAll_nil | (with_reducible apply Cf.mk; kernel_rfl) | apply And.intro | intro _ | exact True.intro | apply Lf.mk)
    all_goals simp only [Int.toNat_natCast, Nat.zero_add, decide_eq_true_eq, decide_eq_false_iff_not, Int.ofNat_lt] at *
    all_goals first | omega | skip
    · rename_i h3 h4
      symm
      exact all_false_of goodRt (VK.dflt .rat) l i h3 (by rw [Bool.not_eq_true'] at h4; exact h4)
    · rename_i h3 h4
      have h3 : i < l.length := h3
      have h4 : goodRt (getA (VK.dflt .rat) l i) = true := by rw [Bool.not_eq_false'] at h4; exact h4
      refine ⟨i + 1, ⟨by omega, ?_⟩, by omega, ?_⟩
      · rw [all_take_succ goodRt (VK.dflt .rat) l i h3, g2, h4]; rfl
      · repeat' (first | apply And.intro | exact True.intro | exact Lf.mk (by with_reducible rfl) | apply Lf.mk)
        all_goals rfl
    · rename_i h3
      have h3 : ¬ i < l.length := h3
      change true = l.all goodRt
      rw [List.take_of_length_le (by omega)] at g2
      exact g2.symm
end Go.Vx
