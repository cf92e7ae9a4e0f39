/- Sums, differences, products and quotients of fractions, in lowest terms. -/
import Derived.Test.YtjiafbjoijffjaaGreatPk11
import Derived.Shelf.Lay
import Derived.BigQuiet
namespace Go.Vx
open Go Go.Proofs
set_option maxRecDepth 100000
set_option linter.unusedSimpArgs false
set_option linter.unusedVariables false

abbrev NI : VK := .num .i64
noncomputable def s_impl_abs : Sig := ⟨248, [.val NI], [.val NI], fun ((a : Int), _) => ⟨[-9223372036854775808 < a], ((a.natAbs : Int), ()), ()⟩⟩
noncomputable def s_impl_within : Sig := ⟨87, [.val NI, .val NI, .val NI], [.val .bool], fun ((n : Int), (lo : Int), (hi : Int), _) => ⟨[], (inB n lo hi, ()), ()⟩⟩
noncomputable def s_spec_l1In : Sig := ⟨107, [.val NI, .val NI, .val NI], [.val .bool], fun ((n : Int), (lo : Int), (hi : Int), _) => ⟨[], (inB n lo hi, ()), ()⟩⟩
noncomputable def s_spec_l1Most : Sig := ⟨229, [.val NI, .val NI], [.val NI], fun ((a : Int), (b : Int), _) => ⟨[], ((max a b : Int), ()), ()⟩⟩
noncomputable def s_spec_l1Abs : Sig := ⟨183, [.val NI], [.val NI], fun ((a : Int), _) => ⟨[-9223372036854775808 < a, a ≤ 9223372036854775807], ((a.natAbs : Int), ()), ()⟩⟩
noncomputable def s_spec_l1Sign : Sig := ⟨166, [.val NI], [.val NI], fun ((a : Int), _) => ⟨[], (sgn a, ()), ()⟩⟩
noncomputable def s_impl_greatestDivisor : Sig := ⟨230, [.val NI, .val NI], [.val NI], fun ((a : Int), (b : Int), _) => ⟨[-9223372036854775808 < a, -9223372036854775808 < b, a ≤ 9223372036854775807, b ≤ 9223372036854775807], ((Int.gcd a b : Int), ()), ()⟩⟩
noncomputable def s_spec_raCommon : Sig := ⟨182, [.val NI, .val NI], [.val NI], fun ((a : Int), (b : Int), _) => ⟨[0 ≤ a, 0 ≤ b, a ≤ 9223372036854775807, b ≤ 9223372036854775807], ((Int.gcd a b : Int), ()), ()⟩⟩
noncomputable def s_impl_isRat : Sig := ⟨186, [.val .rat], [.val .bool], fun ((r : Rt), _) => ⟨[], (goodRt r, ()), ()⟩⟩
noncomputable def s_spec_raGood : Sig := ⟨184, [.val .rat], [.val .bool], fun ((r : Rt), _) => ⟨[], (goodRt r, ()), ()⟩⟩
noncomputable def s_impl_compare : Sig := ⟨173, [.val .rat, .val .rat], [.val NI], fun ((a : Rt), (b : Rt), _) => ⟨[goodRt a = true, goodRt b = true], (cmpRt a b, ()), ()⟩⟩
noncomputable def s_spec_raCmp : Sig := ⟨94, [.val .rat, .val .rat], [.val NI], fun ((a : Rt), (b : Rt), _) => ⟨[goodRt a = true, goodRt b = true], (cmpRt a b, ()), ()⟩⟩
noncomputable def s_impl_less : Sig := ⟨101, [.val .rat, .val .rat], [.val .bool], fun ((a : Rt), (b : Rt), _) => ⟨[goodRt a = true, goodRt b = true], (lessRt a b, ()), ()⟩⟩
noncomputable def s_impl_areRats : Sig := ⟨231, [.list .rat], [.val .bool], fun ((l : List Rt), _) => ⟨[], (l.all goodRt, ()), ()⟩⟩

theorem ok_impl_abs : GSpec Tryz.prog s_impl_abs := by
  refine fn_known tab_ok fol Known.nil (by decide) Tryz.func248 ?_
  rintro ⟨(a : Int), ⟨⟩⟩ hl ⟨h1, _⟩
  repeat' (first | with_reducible apply andAll_cons | with_reducible apply andAll_nil | (with_reducible apply Cf.mk; kernel_rfl) | apply And.intro | intro _ | exact True.intro | apply Lf.mk)
  all_goals simp only [decide_eq_true_eq, decide_eq_false_iff_not, inI64] at *
  all_goals (try change @Eq Int _ _)
  all_goals omega

theorem ok_impl_within : GSpec Tryz.prog s_impl_within := by
  refine fn_known tab_ok fol Known.nil (by decide) Tryz.func87 ?_
  rintro ⟨(n : Int), (lo : Int), (hi : Int), ⟨⟩⟩ hl _
  repeat' (first | with_reducible apply andAll_cons | with_reducible apply andAll_nil | (with_reducible apply Cf.mk; kernel_rfl) | apply And.intro | intro _ | exact True.intro | apply Lf.mk)
  all_goals (try change @Eq Bool _ _)
  all_goals simp_all [inB]
  all_goals omega

theorem ok_spec_l1In : GSpec Tryz.prog s_spec_l1In := by
  refine fn_known tab_ok fol Known.nil (by decide) Tryz.func107 ?_
  rintro ⟨(n : Int), (lo : Int), (hi : Int), ⟨⟩⟩ hl _
  repeat' (first | with_reducible apply andAll_cons | with_reducible apply andAll_nil | (with_reducible apply Cf.mk; kernel_rfl) | apply And.intro | intro _ | exact True.intro | apply Lf.mk)
  all_goals (try change @Eq Bool _ _)
  all_goals simp_all [inB]
  all_goals omega

theorem ok_spec_l1Most : GSpec Tryz.prog s_spec_l1Most := by
  refine fn_known tab_ok fol Known.nil (by decide) Tryz.func229 ?_
  rintro ⟨(a : Int), (b : Int), ⟨⟩⟩ hl _
  repeat' (first | with_reducible apply andAll_cons | with_reducible apply andAll_nil | (with_reducible apply Cf.mk; kernel_rfl) | apply And.intro | intro _ | exact True.intro | apply Lf.mk)
  all_goals simp only [decide_eq_true_eq, decide_eq_false_iff_not, inI64] at *
  all_goals (try change @Eq Int _ _)
  all_goals omega

theorem ok_spec_l1Abs : GSpec Tryz.prog s_spec_l1Abs := by
  refine fn_known tab_ok fol (Known.nil.cons ok_spec_l1Most (by kernel_rfl)) (by decide) Tryz.func183 ?_
  rintro ⟨(a : Int), ⟨⟩⟩ hl ⟨h1, h2, _⟩
  repeat' (first | with_reducible apply andAll_cons | with_reducible apply andAll_nil | (with_reducible apply Cf.mk; kernel_rfl) | apply And.intro | intro _ | exact True.intro | apply Lf.mk)
  all_goals (try change @Eq Int _ _)
  all_goals omega

theorem ok_spec_l1Sign : GSpec Tryz.prog s_spec_l1Sign := by
  refine fn_known tab_ok fol Known.nil (by decide) Tryz.func166 ?_
  rintro ⟨(a : Int), ⟨⟩⟩ hl _
  repeat' (first | with_reducible apply andAll_cons | with_reducible apply andAll_nil | (with_reducible apply Cf.mk; kernel_rfl) | apply And.intro | intro _ | exact True.intro | apply Lf.mk)
  all_goals simp only [decide_eq_true_eq, decide_eq_false_iff_not] at *
  all_goals (try change @Eq Int _ _)
  all_goals (unfold sgn; split <;> first | omega | (split <;> omega))

theorem ok_impl_greatestDivisor : GSpec Tryz.prog s_impl_greatestDivisor := by
  refine fn_known tab_ok fol (Known.nil.cons ok_impl_abs (by kernel_rfl)) (by decide) Tryz.func230 ?_
  rintro ⟨(a : Int), (b : Int), ⟨⟩⟩ hl ⟨h1, h2, h3, h4, _⟩
  repeat' (first | with_reducible apply andAll_cons | with_reducible apply andAll_nil | (with_reducible apply Cf.mk; kernel_rfl) | apply And.intro | intro _ | exact True.intro | apply Lf.mk)
  · exact h1
  · exact h2
  · refine ⟨Int × Int, fun x => ⟨[(0, .sc (.num .i64 x.1)), (1, .sc (.num .i64 x.2))], [], []⟩, fun x => 0 ≤ x.1 ∧ 0 ≤ x.2 ∧ Int.gcd x.1 x.2 = Int.gcd a b ∧ x.1 ≤ 9223372036854775807 ∧ x.2 ≤ 9223372036854775807, fun x => x.2.natAbs, ⟨((a.natAbs : Int), (b.natAbs : Int)), ?_, ?_⟩, ?_⟩
    · exact ⟨by dsimp only; omega, by dsimp only; omega, rfl, by dsimp only; omega, by dsimp only; omega⟩
    · repeat' (first | apply And.intro | exact True.intro | exact Lf.mk (by with_reducible rfl) | apply Lf.mk)
      all_goals rfl
    · rintro ⟨p, q⟩ ⟨g1, g2, g3, g4, g5⟩
      repeat' (first | with_reducible apply andAll_cons | with_reducible apply andAll_nil | (with_reducible apply Cf.mk; kernel_rfl) | apply And.intro | intro _ | exact True.intro | apply Lf.mk)
      · simp_all
      · have := Int.tmod_nonneg q g1
        have := Int.tmod_lt_of_pos p (b := q) (by simp only [bne_iff_ne] at *; omega)
        refine ⟨(q, p.tmod q), ?_, ?_, ?_⟩
        · simp only [gcd_tmod] at *
          omega
        · simp only at *
          omega
        · repeat' (first | apply And.intro | exact True.intro | exact Lf.mk (by with_reducible rfl) | apply Lf.mk)
          all_goals rfl
      · change @Eq Int _ _
        simp_all
        omega

theorem ok_spec_raCommon : GSpec Tryz.prog s_spec_raCommon := by
  refine fn_known tab_ok fol Known.nil (by decide) Tryz.func182 ?_
  rintro ⟨(a : Int), (b : Int), ⟨⟩⟩ hl ⟨h1, h2, h3, h4, _⟩
  refine ⟨Int × Int, fun x => ⟨[(0, .sc (.num .i64 x.1)), (1, .sc (.num .i64 x.2))], [], []⟩, fun x => 0 ≤ x.1 ∧ 0 ≤ x.2 ∧ Int.gcd x.1 x.2 = Int.gcd a b ∧ x.1 ≤ 9223372036854775807 ∧ x.2 ≤ 9223372036854775807, fun x => x.2.natAbs, ⟨(a, b), ?_, ?_⟩, ?_⟩
  · exact ⟨h1, h2, rfl, h3, h4⟩
  · repeat' (first | apply And.intro | exact True.intro | exact Lf.mk (by with_reducible rfl) | apply Lf.mk)
    all_goals rfl
  · rintro ⟨p, q⟩ ⟨g1, g2, g3, g4, g5⟩
    repeat' (first | with_reducible apply andAll_cons | with_reducible apply andAll_nil | (with_reducible apply Cf.mk; kernel_rfl) | apply And.intro | intro _ | exact True.intro | apply Lf.mk)
    · simp only [decide_eq_true_eq] at *; omega
    · have h5 : 0 < q := by simp only [decide_eq_true_eq] at *; assumption
      have := Int.tmod_nonneg q g1
      have := Int.tmod_lt_of_pos p h5
      refine ⟨(q, p.tmod q), ?_, ?_, ?_⟩
      · simp only [gcd_tmod] at *
        omega
      · simp only at *
        omega
      · repeat' (first | apply And.intro | exact True.intro | exact Lf.mk (by with_reducible rfl) | apply Lf.mk)
        all_goals rfl
    · change @Eq Int _ _
      simp only [decide_eq_false_iff_not] at *
      have : q = 0 := by omega
      subst this
      rw [← g3]
      simp
      omega

theorem goodT {n d : Int} (h1 : 1 ≤ d ∧ d ≤ 1000000000) (h2 : -1000000000 ≤ n ∧ n ≤ 1000000000) : (((Int.gcd n d : Int)) == 1) = goodRt ⟨n, d⟩ := by
  rw [Bool.eq_iff_iff, goodRt_iff, beq_iff_eq]; dsimp only; omega
theorem goodF {n d : Int} (h : ¬ ((1 ≤ d ∧ d ≤ 1000000000) ∧ (-1000000000 ≤ n ∧ n ≤ 1000000000))) : false = goodRt ⟨n, d⟩ := by
  symm; rw [Bool.eq_false_iff, ne_eq, goodRt_iff]; dsimp only; omega

theorem ok_impl_isRat : GSpec Tryz.prog s_impl_isRat := by
  refine fn_known tab_ok fol ((Known.nil.cons ok_impl_within (by kernel_rfl)).cons ok_impl_greatestDivisor (by kernel_rfl)) (by decide) Tryz.func186 ?_
  rintro ⟨⟨(n : Int), (d : Int)⟩, ⟨⟩⟩ hl _
  repeat' (first | with_reducible apply andAll_cons | with_reducible apply andAll_nil | (with_reducible apply Cf.mk; kernel_rfl) | apply And.intro | intro _ | exact True.intro | apply Lf.mk)
  all_goals simp only [inB, decide_eq_true_eq, decide_eq_false_iff_not] at *
  all_goals first | omega | exact goodT (by omega) (by omega) | exact goodF (by omega)

theorem ok_spec_raGood : GSpec Tryz.prog s_spec_raGood := by
  refine fn_known tab_ok fol (((Known.nil.cons ok_spec_l1In (by kernel_rfl)).cons ok_spec_l1Abs (by kernel_rfl)).cons ok_spec_raCommon (by kernel_rfl)) (by decide) Tryz.func184 ?_
  rintro ⟨⟨(n : Int), (d : Int)⟩, ⟨⟩⟩ hl _
  have hg : Int.gcd ((n.natAbs : Int)) d = Int.gcd n d := by simp [Int.gcd]
  repeat' (first | with_reducible apply andAll_cons | with_reducible apply andAll_nil | (with_reducible apply Cf.mk; kernel_rfl) | apply And.intro | intro _ | exact True.intro | apply Lf.mk)
  all_goals (by_cases h1 : 1 ≤ d ∧ d ≤ 1000000000 <;> by_cases h2 : -1000000000 ≤ n ∧ n ≤ 1000000000)
  all_goals (simp_all only [inB, decide_true, decide_false, cond_true, cond_false, and_self, Bool.false_eq_true, reduceCtorEq])
  all_goals first | omega | exact goodT h1 h2 | exact goodT (by omega) (by omega) | exact goodF (by omega)

def smallRt (r : Rt) : Bool := decide (1 ≤ r.den ∧ r.den ≤ 1000000000 ∧ -1000000000 ≤ r.num ∧ r.num ≤ 1000000000)
theorem small_good {r : Rt} (h : goodRt r = true) : smallRt r = true := by
  rw [goodRt_iff] at h; simp [smallRt]; omega
theorem small_mk {r : Rt} (h : 1 ≤ r.den ∧ r.den ≤ 1000000000 ∧ -1000000000 ≤ r.num ∧ r.num ≤ 1000000000) : smallRt r = true := by simp [smallRt]; omega
theorem smallmul {a b : Rt} (ha : smallRt a = true) (hb : smallRt b = true) : -1000000000000000000 ≤ a.num * b.den ∧ a.num * b.den ≤ 1000000000000000000 := by
  simp only [smallRt, decide_eq_true_eq] at ha hb
  have := mul_bd (A := 1000000000) (B := 1000000000) (a := a.num) (b := b.den) (by omega) (by omega) (by omega) (by omega) (by omega)
  simpa using this
noncomputable def s_impl_compare_ : Sig := ⟨173, [.val .rat, .val .rat], [.val NI], fun ((a : Rt), (b : Rt), _) => ⟨[smallRt a = true, smallRt b = true], (cmpRt a b, ()), ()⟩⟩
noncomputable def s_impl_less_ : Sig := ⟨101, [.val .rat, .val .rat], [.val .bool], fun ((a : Rt), (b : Rt), _) => ⟨[smallRt a = true, smallRt b = true], (lessRt a b, ()), ()⟩⟩

theorem ok_impl_compare_ : GSpec Tryz.prog s_impl_compare_ := by
  refine fn_known tab_ok fol Known.nil (by decide) Tryz.func173 ?_
  rintro ⟨⟨(n : Int), (d : Int)⟩, ⟨(m : Int), (e : Int)⟩, ⟨⟩⟩ hl ⟨h1, h2, _⟩
  have b1 := smallmul h1 h2
  have b2 := smallmul h2 h1
  dsimp only at b1 b2
  repeat' (first | with_reducible apply andAll_cons | with_reducible apply andAll_nil | (with_reducible apply Cf.mk; kernel_rfl) | apply And.intro | intro _ | exact True.intro | apply Lf.mk)
  all_goals first | omega | skip
  all_goals simp only [decide_eq_true_eq, decide_eq_false_iff_not] at *
  · change (-1 : Int) = if n * e - m * d < 0 then -1 else if 0 < n * e - m * d then 1 else 0
    rw [if_pos (by omega)]
  · change (1 : Int) = if n * e - m * d < 0 then -1 else if 0 < n * e - m * d then 1 else 0
    rw [if_neg (by omega), if_pos (by omega)]
  · change (0 : Int) = if n * e - m * d < 0 then -1 else if 0 < n * e - m * d then 1 else 0
    rw [if_neg (by omega), if_neg (by omega)]
theorem ok_impl_compare : GSpec Tryz.prog s_impl_compare :=
  GSpec.imp ok_impl_compare_ fun (_, _, _) ⟨h1, h2, _⟩ => ⟨⟨small_good h1, small_good h2, trivial⟩, rfl, rfl⟩

theorem ok_spec_raCmp : GSpec Tryz.prog s_spec_raCmp := by
  refine fn_known tab_ok fol (Known.nil.cons ok_spec_l1Sign (by kernel_rfl)) (by decide) Tryz.func94 ?_
  rintro ⟨⟨(n : Int), (d : Int)⟩, ⟨(m : Int), (e : Int)⟩, ⟨⟩⟩ hl ⟨h1, h2, _⟩
  have b1 := ratmul h1 h2
  have b2 := ratmul h2 h1
  dsimp only at b1 b2
  repeat' (first | with_reducible apply andAll_cons | with_reducible apply andAll_nil | (with_reducible apply Cf.mk; kernel_rfl) | apply And.intro | intro _ | exact True.intro | apply Lf.mk)
  all_goals first | omega | rfl

theorem sgn_neg {n : Int} : (sgn n < 0) ↔ n < 0 := by
  unfold sgn; split
  · omega
  · split <;> omega

theorem ok_impl_less_ : GSpec Tryz.prog s_impl_less_ := by
  refine fn_known tab_ok fol (Known.nil.cons ok_impl_compare_ (by kernel_rfl)) (by decide) Tryz.func101 ?_
  rintro ⟨⟨(n : Int), (d : Int)⟩, ⟨(m : Int), (e : Int)⟩, ⟨⟩⟩ hl ⟨h1, h2, _⟩
  repeat' (first | with_reducible apply andAll_cons | with_reducible apply andAll_nil | (with_reducible apply Cf.mk; kernel_rfl) | apply And.intro | intro _ | exact True.intro | apply Lf.mk)
  · exact h1
  · exact h2
  · change decide (cmpRt _ _ < 0) = lessRt _ _
    unfold lessRt cmpRt
    rw [Bool.eq_iff_iff, decide_eq_true_eq, decide_eq_true_eq, sgn_neg]
    omega
theorem ok_impl_less : GSpec Tryz.prog s_impl_less :=
  GSpec.imp ok_impl_less_ fun (_, _, _) ⟨h1, h2, _⟩ => ⟨⟨small_good h1, small_good h2, trivial⟩, rfl, rfl⟩

theorem cmp_less (a b : Rt) : decide (cmpRt a b < 0) = lessRt a b := by
  unfold lessRt cmpRt
  rw [Bool.eq_iff_iff, decide_eq_true_eq, decide_eq_true_eq, sgn_neg]
  omega

theorem all_take_succ {α : Type} (p : α → Bool) (d : α) (l : List α) (i : Nat) (h : i < l.length) : (l.take (i + 1)).all p = ((l.take i).all p && p (getA d l i)) := by
  rw [getA_eq, List.take_add_one, List.all_append]
  simp [List.getD, h]
theorem all_false_of {α : Type} (p : α → Bool) (d : α) (l : List α) (i : Nat) (h : i < l.length) (hp : p (getA d l i) = false) : l.all p = false := by
  rw [getA_eq] at hp
  rw [List.all_eq_false]
  exact ⟨l[i], List.getElem_mem h, by simp [List.getD, h] at hp; simp [hp]⟩

theorem ok_impl_areRats : GSpec Tryz.prog s_impl_areRats := by
  refine fn_known tab_ok fol (Known.nil.cons ok_impl_isRat (by kernel_rfl)) (by decide) Tryz.func231 ?_
  rintro ⟨(l : List Rt), ⟨⟩⟩ ⟨hl, _⟩ _
  have hl : l.length ≤ 9223372036854775807 := hl
  refine ⟨Nat, fun i => ⟨[(7, .sc (.num .i64 i))], [100000], []⟩, fun i => i ≤ l.length ∧ (l.take i).all goodRt = true, fun i => l.length - i, ⟨0, ?_, ?_⟩, ?_⟩
  · exact ⟨Nat.zero_le _, rfl⟩
  · repeat' (first | apply And.intro | exact True.intro | exact Lf.mk (by with_reducible rfl) | apply Lf.mk)
    all_goals rfl
  · rintro i ⟨g1, g2⟩
    repeat' (first | with_reducible apply andAll_cons | with_reducible apply andAll_nil | (with_reducible apply Cf.mk; kernel_rfl) | apply And.intro | intro _ | exact True.intro | apply Lf.mk)
    all_goals simp only [Int.toNat_natCast, Nat.zero_add, decide_eq_true_eq, decide_eq_false_iff_not, Int.ofNat_lt] at *
    all_goals first | omega | skip
    · rename_i h3 h4
      symm
      exact all_false_of goodRt (VK.dflt .rat) l i h3 (by rw [Bool.not_eq_true'] at h4; exact h4)
    · rename_i h3 h4
      have h3 : i < l.length := h3
      have h4 : goodRt (getA (VK.dflt .rat) l i) = true := by rw [Bool.not_eq_false'] at h4; exact h4
      refine ⟨i + 1, ⟨by omega, ?_⟩, by omega, ?_⟩
      · rw [all_take_succ goodRt (VK.dflt .rat) l i h3, g2, h4]; rfl
      · repeat' (first | apply And.intro | exact True.intro | exact Lf.mk (by with_reducible rfl) | apply Lf.mk)
        all_goals rfl
    · rename_i h3
      have h3 : ¬ i < l.length := h3
      change true = l.all goodRt
      rw [List.take_of_length_le (by omega)] at g2
      exact g2.symm
end Go.Vx
namespace Go.Vx
open Go Go.Proofs
set_option maxRecDepth 100000
set_option linter.unusedSimpArgs false
set_option linter.unusedVariables false

def idxF {α : Type} (p : α → Bool) (l : List α) : Int := match l.findIdx? p with
  | some i => (i : Int)
  | none => -1
theorem take_all_false {α : Type} {p : α → Bool} (d : α) {l : List α} {i : Nat} (h : i < l.length) (h1 : (l.take i).any p = false) (h2 : p (getA d l i) = false) : (l.take (i + 1)).any p = false := by
  rw [getA_eq] at h2
  rw [List.take_add_one, List.any_append, h1]
  simp [List.getD, h] at h2
  simp [h, h2]
theorem idxF_hit {α : Type} {p : α → Bool} (d : α) {l : List α} {i : Nat} (h : i < l.length) (h1 : (l.take i).any p = false) (h2 : p (getA d l i) = true) : idxF p l = i := by
  have : l.findIdx? p = some i := by
    rw [List.findIdx?_eq_some_iff_getElem]
    refine ⟨h, ?_, fun j hj => ?_⟩
    · rw [getA_eq] at h2; simpa [List.getD, h] using h2
    · have := (List.any_eq_false.1 h1) l[j] (by
        rw [List.mem_take_iff_getElem]; exact ⟨j, by omega, rfl⟩)
      simpa using this
  unfold idxF; rw [this]
theorem idxF_none {α : Type} {p : α → Bool} {l : List α} (h1 : l.any p = false) : idxF p l = -1 := by
  have : l.findIdx? p = none := by
    rw [List.findIdx?_eq_none_iff]
    intro x hx
    have := (List.any_eq_false.1 h1) x hx
    simpa using this
  unfold idxF; rw [this]
theorem idxF_any {α : Type} {p : α → Bool} {l : List α} : decide (0 ≤ idxF p l) = l.any p := by
  cases h : l.any p
  · rw [idxF_none h]; rfl
  · have : l.findIdx? p ≠ none := by
      rw [ne_eq, List.findIdx?_eq_none_iff]
      intro h2
      obtain ⟨x, hx, hp⟩ := List.any_eq_true.1 h
      rw [h2 x hx] at hp; cases hp
    unfold idxF
    cases hf : l.findIdx? p with
    | none => exact (this hf).elim
    | some i => simp
theorem getA_mem {α : Type} (d : α) {l : List α} {i : Nat} (h : i < l.length) : getA d l i ∈ l := by
  rw [getA_eq]; simp [List.getD, h]
theorem idxF_rng {α : Type} (p : α → Bool) (l : List α) : -1 ≤ idxF p l ∧ idxF p l < (l.length : Int) ∨ idxF p l = -1 := by
  unfold idxF
  cases hf : l.findIdx? p with
  | none => exact .inr rfl
  | some i =>
    have := (List.findIdx?_eq_some_iff_getElem.1 hf)
    obtain ⟨h, _⟩ := this
    have h1 : -1 ≤ (i : Int) ∧ (i : Int) < (l.length : Int) := ⟨by omega, by omega⟩
    exact .inl h1


noncomputable def s_lib_IndexFuncRat : Sig := ⟨235, [.list .rat, .clo .rat], [.val NI], fun ((l : List Rt), ((D : Rt → Prop), (p : Rt → Bool)), _) => ⟨[∀ x ∈ l, D x], (idxF p l, ()), ()⟩⟩
theorem ok_lib_IndexFuncRat : GSpec Tryz.prog s_lib_IndexFuncRat := by
  refine fn_known tab_ok fol Known.nil (by decide) Tryz.func235 ?_
  rintro ⟨(l : List Rt), ⟨(D : Rt → Prop), (p : Rt → Bool)⟩, ⟨⟩⟩ ⟨hl, _⟩ ⟨hD, _⟩
  have hl : l.length ≤ 9223372036854775807 := hl
  refine ⟨Nat, fun i => ⟨[(8, .sc (.num .i64 i))], [100000], []⟩, fun i => i ≤ l.length ∧ (l.take i).any p = false, fun i => l.length - i, ⟨0, ⟨Nat.zero_le _, rfl⟩, ?_⟩, ?_⟩
  · repeat' (first | apply And.intro | exact True.intro | exact Lf.mk (by with_reducible rfl) | apply Lf.mk)
    all_goals rfl
  · rintro i ⟨g1, g2⟩
    repeat' (first | with_reducible apply andAll_cons | with_reducible apply andAll_nil | (with_reducible apply Cf.mk; kernel_rfl) | apply And.intro | intro _ | exact True.intro | apply Lf.mk)
    all_goals (try simp only [Bool.not_eq_true', Bool.not_eq_false', Bool.not_not, decide_eq_true_eq, decide_eq_false_iff_not, beq_iff_eq, bne_iff_ne, beq_eq_false_iff_ne, bne_eq_false_iff_eq, ne_eq, Bool.and_eq_true, Bool.and_eq_false_iff, Bool.or_eq_true, Bool.or_eq_false_iff, Int.toNat_natCast, Nat.zero_add, Int.ofNat_lt, Int.ofNat_le, List.length_cons, List.length_nil, List.drop_zero, List.take_length] at *)
    all_goals first | omega | exact hD _ (getA_mem _ (by omega)) | skip
    · exact (idxF_hit _ (by assumption) g2 (by assumption)).symm
    · refine ⟨i + 1, ⟨by omega, take_all_false (VK.dflt (.rat)) (by assumption) g2 (by assumption)⟩, by omega, ?_⟩
      repeat' (first | apply And.intro | exact True.intro | exact Lf.mk (by with_reducible rfl) | apply Lf.mk)
      all_goals (rw [Int.natCast_add]; rfl)
    · rename_i h3
      rw [List.take_of_length_le (by omega)] at g2
      exact (idxF_none g2).symm
noncomputable def s_lib_ContainsFuncRat : Sig := ⟨197, [.list .rat, .clo .rat], [.val .bool], fun ((l : List Rt), ((D : Rt → Prop), (p : Rt → Bool)), _) => ⟨[∀ x ∈ l, D x], (l.any p, ()), ()⟩⟩
theorem ok_lib_ContainsFuncRat : GSpec Tryz.prog s_lib_ContainsFuncRat := by
  refine fn_known tab_ok fol (Known.nil.cons ok_lib_IndexFuncRat (by kernel_rfl)) (by decide) Tryz.func197 ?_
  rintro ⟨(l : List Rt), ⟨(D : Rt → Prop), (p : Rt → Bool)⟩, ⟨⟩⟩ ⟨hl, _⟩ ⟨hD, _⟩
  repeat' (first | with_reducible apply andAll_cons | with_reducible apply andAll_nil | (with_reducible apply Cf.mk; kernel_rfl) | apply And.intro | intro _ | exact True.intro | apply Lf.mk)
  all_goals (try simp only [Bool.not_eq_true', Bool.not_eq_false', Bool.not_not, decide_eq_true_eq, decide_eq_false_iff_not, beq_iff_eq, bne_iff_ne, beq_eq_false_iff_ne, bne_eq_false_iff_eq, ne_eq, Bool.and_eq_true, Bool.and_eq_false_iff, Bool.or_eq_true, Bool.or_eq_false_iff, Int.toNat_natCast, Nat.zero_add, Int.ofNat_lt, Int.ofNat_le, List.length_cons, List.length_nil, List.drop_zero, List.take_length] at *)
  all_goals first | exact hD _ (by assumption) | exact idxF_any

noncomputable def s_lib_IndexFuncPoint : Sig := ⟨218, [.list .pt, .clo .pt], [.val NI], fun ((l : List Pt), ((D : Pt → Prop), (p : Pt → Bool)), _) => ⟨[∀ x ∈ l, D x], (idxF p l, ()), ()⟩⟩
theorem ok_lib_IndexFuncPoint : GSpec Tryz.prog s_lib_IndexFuncPoint := by
  refine fn_known tab_ok fol Known.nil (by decide) Tryz.func218 ?_
  rintro ⟨(l : List Pt), ⟨(D : Pt → Prop), (p : Pt → Bool)⟩, ⟨⟩⟩ ⟨hl, _⟩ ⟨hD, _⟩
  have hl : l.length ≤ 9223372036854775807 := hl
  refine ⟨Nat, fun i => ⟨[(8, .sc (.num .i64 i))], [100000], []⟩, fun i => i ≤ l.length ∧ (l.take i).any p = false, fun i => l.length - i, ⟨0, ⟨Nat.zero_le _, rfl⟩, ?_⟩, ?_⟩
  · repeat' (first | apply And.intro | exact True.intro | exact Lf.mk (by with_reducible rfl) | apply Lf.mk)
    all_goals rfl
  · rintro i ⟨g1, g2⟩
    repeat' (first | with_reducible apply andAll_cons | with_reducible apply andAll_nil | (with_reducible apply Cf.mk; kernel_rfl) | apply And.intro | intro _ | exact True.intro | apply Lf.mk)
    all_goals (try simp only [Bool.not_eq_true', Bool.not_eq_false', Bool.not_not, decide_eq_true_eq, decide_eq_false_iff_not, beq_iff_eq, bne_iff_ne, beq_eq_false_iff_ne, bne_eq_false_iff_eq, ne_eq, Bool.and_eq_true, Bool.and_eq_false_iff, Bool.or_eq_true, Bool.or_eq_false_iff, Int.toNat_natCast, Nat.zero_add, Int.ofNat_lt, Int.ofNat_le, List.length_cons, List.length_nil, List.drop_zero, List.take_length] at *)
    all_goals first | omega | exact hD _ (getA_mem _ (by omega)) | skip
    · exact (idxF_hit _ (by assumption) g2 (by assumption)).symm
    · refine ⟨i + 1, ⟨by omega, take_all_false (VK.dflt (.pt)) (by assumption) g2 (by assumption)⟩, by omega, ?_⟩
      repeat' (first | apply And.intro | exact True.intro | exact Lf.mk (by with_reducible rfl) | apply Lf.mk)
      all_goals (rw [Int.natCast_add]; rfl)
    · rename_i h3
      rw [List.take_of_length_le (by omega)] at g2
      exact (idxF_none g2).symm
noncomputable def s_lib_ContainsFuncPoint : Sig := ⟨158, [.list .pt, .clo .pt], [.val .bool], fun ((l : List Pt), ((D : Pt → Prop), (p : Pt → Bool)), _) => ⟨[∀ x ∈ l, D x], (l.any p, ()), ()⟩⟩
theorem ok_lib_ContainsFuncPoint : GSpec Tryz.prog s_lib_ContainsFuncPoint := by
  refine fn_known tab_ok fol (Known.nil.cons ok_lib_IndexFuncPoint (by kernel_rfl)) (by decide) Tryz.func158 ?_
  rintro ⟨(l : List Pt), ⟨(D : Pt → Prop), (p : Pt → Bool)⟩, ⟨⟩⟩ ⟨hl, _⟩ ⟨hD, _⟩
  repeat' (first | with_reducible apply andAll_cons | with_reducible apply andAll_nil | (with_reducible apply Cf.mk; kernel_rfl) | apply And.intro | intro _ | exact True.intro | apply Lf.mk)
  all_goals (try simp only [Bool.not_eq_true', Bool.not_eq_false', Bool.not_not, decide_eq_true_eq, decide_eq_false_iff_not, beq_iff_eq, bne_iff_ne, beq_eq_false_iff_ne, bne_eq_false_iff_eq, ne_eq, Bool.and_eq_true, Bool.and_eq_false_iff, Bool.or_eq_true, Bool.or_eq_false_iff, Int.toNat_natCast, Nat.zero_add, Int.ofNat_lt, Int.ofNat_le, List.length_cons, List.length_nil, List.drop_zero, List.take_length] at *)
  all_goals first | exact hD _ (by assumption) | exact idxF_any

end Go.Vx
namespace Go.Vx
open Go Go.Proofs Go.Shelf Go.RowKit
set_option maxRecDepth 100000
set_option linter.unusedSimpArgs false
set_option linter.unusedVariables false

theorem heap_setCell_same (w : World) (b i : Nat) (cs : Array Value) (t : TypeId) (v : Value) (h : w.heap[b]? = some (.cells cs t (0, 0))) : (w.setCell ⟨b, i, none⟩ v).heap[b]? = some (.cells (cs.setIfInBounds i v) t (0, 0)) := by
  simp [World.setCell, Array.getElem?_modify, h]
theorem kept_two (W : World) (k p q : Nat) (u v : Value) : Kept (fun j => j = k) W ((((W.drewN p).setCell ⟨k, 1, none⟩ u).setCell ⟨k, 2, none⟩ v).drewN q) := by
  refine ⟨rfl, rfl, rfl, ?_, fun j hj hne => ?_⟩
  · simp [World.setCell, World.drewN]
  · exact (Below.heap_setCell _ _ _ j hne).trans (Below.heap_setCell _ _ _ j hne)
theorem cu_cell {w : World} {k : Nat} {cs : Array Value} {t : TypeId} {fz : Nat × Nat} (h : w.heap[k]? = some (.cells cs t fz)) (i : Nat) : w.cell? ⟨k, i, none⟩ = cs[i]? := by unfold World.cell?; rw [h]; rfl
theorem cu_frz {w : World} {k : Nat} {cs : Array Value} {t : TypeId} (h : w.heap[k]? = some (.cells cs t (0, 0))) (i : Nat) : w.frozen? ⟨k, i, none⟩ = false := by simp [World.frozen?, h]

set_option maxHeartbeats 2000000 in
theorem next_walk (r : Raw) (a sd : Int) (k : Nat) (W : World) (rb : List Nat) (ha : 0 ≤ a ∧ a ≤ 4611686018427387904) (hk : W.heap[k]? = some (.cells #[r.u, .int .i64 a, .int .u64 sd] 93 (0, 0))) (hl : ListOk W rb (.num .u8) r.bs r.u) (hkr : k ∉ rb) :
    Calls Tryz.prog 202 #[.pointer (some ⟨k, 0, none⟩)] W fun e w' => e = .returned (.int .i64 (nextV ⟨r, a, sd⟩)) ∧ w'.heap[k]? = some (.cells #[r.u, .int .i64 (a + 1), .int .u64 (nextSd ⟨r, a, sd⟩)] 93 (0, 0)) ∧ Kept (fun j => j = k) W w' := by
  obtain ⟨aa, c, hu, hc, hm, hcell⟩ := hl
  rw [hu] at hk ⊢
  have c0 := cu_cell hk 0
  have c1 := cu_cell hk 1
  have c2 := cu_cell hk 2
  have f1 := cu_frz hk 1
  have f2 := cu_frz hk 2
  simp only [List.getElem?_toArray, List.getElem?_cons_zero, List.getElem?_cons_succ] at c0 c1 c2
  by_cases hlt : a < (r.bs.length : Int)
  · obtain ⟨ad, rfl, hadr, hadl, hcl⟩ := hcell (by omega)
    obtain ⟨b, off, sp⟩ := ad
    have hbk : b ≠ k := fun e => hkr (e ▸ hadr)
    have hg0 : ∀ j, (h : j < r.bs.length) → (flat (.num .u8) r.bs)[j]? = some (.int .u8 r.bs[j]) := fun j h => by
      have := flat_get (.num .u8) r.bs j 0 h (by decide)
      rw [show j * VK.size (.num .u8) + 0 = j by simp [VK.size]] at this
      rw [this]
      simp [valCells, List.getD_eq_getElem?_getD, List.getElem?_eq_getElem h]
    have hsp : sp = none := by
      have := hcl 0 _ (hg0 0 (by omega))
      cases sp with
      | none => rfl
      | some q =>
        exfalso
        simp only [Addr.add, if_true, World.cell?] at this
        split at this <;> simp at this
    subst hsp
    obtain ⟨n, rfl⟩ : ∃ n : Nat, a = n := ⟨a.toNat, by omega⟩
    have hn : n < r.bs.length := by omega
    have hx : W.cell? ⟨b, off + n, none⟩ = some (.int .u8 r.bs[n]) := by
      have := hcl n _ (hg0 n hn)
      simp only [Addr.add] at this
      split at this
      · rename_i e
        subst e
        simpa using this
      · exact this
    have hbr := r.hb r.bs[n] (List.getElem_mem hn)
    have hB : nextB ⟨r, n, sd⟩ = r.bs[n] := by unfold nextB; dsimp only; rw [if_pos hlt]; simp [List.getD_eq_getElem?_getD, hn]
    go_enter Tryz.func202, Tryz.ntmps202
    go_wp2
    go_quiet (fail)
    go_wp2
    all_goals (try (go_quiet (fail)))
    all_goals (try go_wp2)
    all_goals (try (go_quiet (fail)))
    all_goals (try go_wp2)
    have e1 : nextSd ⟨r, n, sd⟩ = IntKind.u64.wrap (IntKind.u64.wrap (IntKind.u64.wrap (sd * 6364136223846793005) + r.bs[n]) + 1442695040888963407) := by unfold nextSd; rw [hB]
    have e2 : nextV ⟨r, n, sd⟩ = r.bs[n] := by unfold nextV; dsimp only; rw [if_pos hlt, hB]
    rw [e1, e2]
    refine bodyPost_ret (results_tmp rfl _ _ _) rfl ⟨rfl, ?_, ?_⟩
    · exact heap_setCell_same _ k 2 _ _ _ (heap_setCell_same _ k 1 _ _ _ hk)
    · exact kept_two _ _ _ _ _ _
  · have hlv : nextB ⟨r, a, sd⟩ = 0 ∧ nextV ⟨r, a, sd⟩ = wrap64 (bits BinOp.and IntKind.u64 (nextSd ⟨r, a, sd⟩ / 1099511627776) 255) := by
      constructor
      · unfold nextB; dsimp only; rw [if_neg hlt]
      · unfold nextV; dsimp only; rw [if_neg hlt]
    obtain ⟨hB, e2⟩ := hlv
    go_enter Tryz.func202, Tryz.ntmps202
    go_wp2
    go_quiet (fail)
    go_wp2
    all_goals (try (go_quiet (fail)))
    all_goals (try go_wp2)
    have e1 : nextSd ⟨r, a, sd⟩ = IntKind.u64.wrap (IntKind.u64.wrap (IntKind.u64.wrap (sd * 6364136223846793005)) + 1442695040888963407) := by unfold nextSd; rw [hB, Int.add_zero]
    rw [e2, e1]
    refine bodyPost_ret (results_tmp rfl _ _ _) rfl ⟨rfl, ?_, ?_⟩
    · exact heap_setCell_same _ k 2 _ _ _ (heap_setCell_same _ k 1 _ _ _ hk)
    · exact kept_two _ _ _ _ _ _

noncomputable def s_cur_next : Sig := ⟨202, [.cell 93 .cur], [.val NI], fun ((c : Cur), _) => ⟨[AtOk 1 c], (nextV c, ()), (nextS c, ())⟩⟩
theorem ok_cur_next : GSpec Tryz.prog s_cur_next := by
  intro x vs w rb cb ob hargs hraw hnd hrb hpre
  obtain ⟨(⟨r, a, sd⟩ : Cur), ⟨⟩⟩ := x
  obtain ⟨h1, _⟩ := hpre
  have h0 := h1.lo
  have h2 := h1.hi
  dsimp only at h0 h2
  match vs, hargs with
  | [v], ⟨c1, o1, c2, o2, ⟨k, g1, hk, g2, g3⟩, ⟨g4, g5⟩, e1, e2⟩ =>
    subst g1 g2 g3 g4 g5
    simp only [List.append_nil] at e1 e2
    subst e1 e2
    refine (next_walk r a sd k w rb ⟨h0, by omega⟩ hk hraw.1 (hrb k (by simp))).mono ?_
    rintro e w' ⟨rfl, q1, q2⟩
    exact ⟨[.int .i64 (nextV ⟨r, a, sd⟩)], [], rfl, ⟨rfl, rfl⟩, List.nodup_nil, (fun _ h => by cases h), ⟨by rw [nextS_eq]; exact q1, trivial⟩, q2.mono fun j _ h => by simpa using h⟩

noncomputable def s_cur_pick : Sig := ⟨136, [.cell 93 .cur, .val NI], [.val NI], fun ((c : Cur), (n : Int), _) => ⟨[AtOk 2 c], (pickV c n, ()), (pickS c n, ())⟩⟩
theorem ok_cur_pick : GSpec Tryz.prog s_cur_pick := by
  refine fn_known tab_ok fol (Known.nil.cons ok_cur_next (by kernel_rfl)) (by decide) Tryz.func136 ?_
  rintro ⟨(c : Cur), (n : Int), ⟨⟩⟩ hl ⟨h1, _⟩
  have v1 := nextV_rng c
  have v2 := nextV_rng (nextS c)
  repeat' (first | with_reducible apply andAll_cons | with_reducible apply andAll_nil | (with_reducible apply Cf.mk; kernel_rfl) | apply And.intro | intro _ | exact True.intro | apply Lf.mk)
  all_goals (try simp only [cur_eta, List.length_cons, List.length_nil, Nat.zero_add, Nat.reduceAdd, Int.cast_ofNat_Int])
  all_goals (try simp only [Bool.not_eq_true', Bool.not_eq_false', Bool.not_not, decide_eq_true_eq, decide_eq_false_iff_not, beq_iff_eq, bne_iff_ne, beq_eq_false_iff_ne, bne_eq_false_iff_eq, ne_eq, Bool.and_eq_true, Bool.and_eq_false_iff, Bool.or_eq_true, Bool.or_eq_false_iff, Int.toNat_natCast, Nat.zero_add, Int.ofNat_lt, Int.ofNat_le, List.length_cons, List.length_nil, List.drop_zero, List.take_length] at *)
  all_goals first
    | (simp only [pickS_r, nextS_r]; exact ⟨100000, rfl⟩) | exact ⟨100000, rfl⟩
    | exact h1.le (by decide)
    | exact next_at h1
    | omega
    | (rw [pickV_1 (by assumption)]; done)
    | (rw [pickV_2 (by assumption) (by assumption)]; done)
    | (rw [pickV_3 (by assumption) (by assumption)]; done)
    | (rw [pickS_1 (by assumption)]; done)
    | exact (pickS_2 (by assumption) (by assumption)).symm
    | (rw [pickS_3 (by assumption) (by assumption)]; done)
    | trace_state
noncomputable def s_cur_one : Sig := ⟨78, [.cell 93 .cur, .val NI], [.val .bool], fun ((c : Cur), (n : Int), _) => ⟨[AtOk 2 c], (pickV c n == 0, ()), (pickS c n, ())⟩⟩
theorem ok_cur_one : GSpec Tryz.prog s_cur_one := by
  refine fn_known tab_ok fol (Known.nil.cons ok_cur_pick (by kernel_rfl)) (by decide) Tryz.func78 ?_
  rintro ⟨(c : Cur), (n : Int), ⟨⟩⟩ hl ⟨h1, _⟩
  repeat' (first | with_reducible apply andAll_cons | with_reducible apply andAll_nil | (with_reducible apply Cf.mk; kernel_rfl) | apply And.intro | intro _ | exact True.intro | apply Lf.mk)
  all_goals (try simp only [cur_eta, List.length_cons, List.length_nil, Nat.zero_add, Nat.reduceAdd, Int.cast_ofNat_Int])
  all_goals first | (simp only [pickS_r, nextS_r]; exact ⟨100000, rfl⟩) | exact ⟨100000, rfl⟩ | exact h1 | rfl | trace_state
noncomputable def s_cur_among : Sig := ⟨138, [.cell 93 .cur, .list NI], [.val NI], fun ((c : Cur), (l : List Int), _) => ⟨[AtOk 2 c, 1 ≤ l.length], (amongV c l, ()), (pickS c l.length, ())⟩⟩
theorem ok_cur_among : GSpec Tryz.prog s_cur_among := by
  refine fn_known tab_ok fol (Known.nil.cons ok_cur_pick (by kernel_rfl)) (by decide) Tryz.func138 ?_
  rintro ⟨(c : Cur), (l : List Int), ⟨⟩⟩ ⟨hl, _⟩ ⟨h1, h2, _⟩
  have hl : l.length ≤ 9223372036854775807 := hl
  have v1 := pickV_lt c (n := (l.length : Int)) (by omega)
  repeat' (first | with_reducible apply andAll_cons | with_reducible apply andAll_nil | (with_reducible apply Cf.mk; kernel_rfl) | apply And.intro | intro _ | exact True.intro | apply Lf.mk)
  all_goals (try simp only [cur_eta, List.length_cons, List.length_nil, Nat.zero_add, Nat.reduceAdd, Int.cast_ofNat_Int])
  all_goals first | (simp only [pickS_r, nextS_r]; exact ⟨100000, rfl⟩) | exact ⟨100000, rfl⟩ | exact h1 | omega | rfl | (unfold amongV; rfl) | trace_state
end Go.Vx
namespace Go.Vx
open Go Go.Proofs
set_option maxRecDepth 100000
set_option linter.unusedSimpArgs false
set_option linter.unusedVariables false

theorem lowRt_t {n d : Int} (h : goodRt ⟨n.tdiv (gsgn n d), d.tdiv (gsgn n d)⟩ = true) : lowRt n d = (⟨n.tdiv (gsgn n d), d.tdiv (gsgn n d)⟩, true) := by
  unfold lowRt; rw [h]
theorem lowRt_f {n d : Int} (h : goodRt ⟨n.tdiv (gsgn n d), d.tdiv (gsgn n d)⟩ = false) : lowRt n d = (⟨0, 0⟩, false) := by
  unfold lowRt; rw [h]
theorem lowRt_zero {n : Int} : lowRt n 0 = (⟨0, 0⟩, false) := by
  apply lowRt_f
  rw [Bool.eq_false_iff, ne_eq, goodRt_iff]
  simp
theorem tdiv_bd {n g : Int} : (n.tdiv g).natAbs ≤ n.natAbs := by
  rw [Int.natAbs_tdiv]; exact Nat.div_le_self _ _
theorem tdiv_in {n g : Int} (h : -9223372036854775808 < n) (h' : n ≤ 9223372036854775807) : inI64 (n.tdiv g) := by
  have := @tdiv_bd n g
  constructor <;> omega
theorem gsgn_ne {n d : Int} (h : d ≠ 0) : gsgn n d ≠ 0 := by
  have : Int.gcd n d ≠ 0 := by intro h2; exact h (Int.gcd_eq_zero_iff.1 h2).2
  unfold gsgn; split <;> omega
theorem gcd_nn (a b : Int) : Int.gcd (a.natAbs : Int) (b.natAbs : Int) = Int.gcd a b := by simp [Int.gcd]
theorem gcd_bd {n d : Int} (h : d ≠ 0) : (Int.gcd n d : Int) ≤ d.natAbs := by
  have := Nat.le_of_dvd (Int.natAbs_pos.2 h) (Nat.gcd_dvd_right n.natAbs d.natAbs)
  exact Int.ofNat_le.2 this

noncomputable def s_impl_lowest : Sig := ⟨232, [.val NI, .val NI], [.val .rat, .val .bool], fun ((n : Int), (d : Int), _) => ⟨[d ≠ 0, -9223372036854775808 < n, n ≤ 9223372036854775807, -9223372036854775808 < d, d ≤ 9223372036854775807], ((lowRt n d).1, (lowRt n d).2, ()), ()⟩⟩
noncomputable def s_spec_raMake : Sig := ⟨108, [.val NI, .val NI], [.val .rat, .val .bool], fun ((n : Int), (d : Int), _) => ⟨[-9223372036854775808 < n, n ≤ 9223372036854775807, -9223372036854775808 < d, d ≤ 9223372036854775807], ((lowRt n d).1, (lowRt n d).2, ()), ()⟩⟩

theorem gsgn_neg {n d : Int} (h : d < 0) : gsgn n d = 0 - (Int.gcd n d : Int) := by unfold gsgn; rw [if_pos h]; omega
theorem gsgn_pos {n d : Int} (h : ¬ d < 0) : gsgn n d = (Int.gcd n d : Int) := by unfold gsgn; rw [if_neg h]

theorem ok_impl_lowest : GSpec Tryz.prog s_impl_lowest := by
  refine fn_known tab_ok fol ((Known.nil.cons ok_impl_greatestDivisor (by kernel_rfl)).cons ok_impl_isRat (by kernel_rfl)) (by decide) Tryz.func232 ?_
  rintro ⟨(n : Int), (d : Int), ⟨⟩⟩ hl ⟨h1, h2, h3, h4, h5, _⟩
  have h6 := gcd_bd (n := n) h1
  have h7 := gsgn_ne (n := n) h1
  repeat' (first | with_reducible apply andAll_cons | with_reducible apply andAll_nil | (with_reducible apply Cf.mk; kernel_rfl) | apply And.intro | intro _ | exact True.intro | apply Lf.mk)
  all_goals (try simp only [Bool.not_eq_true', Bool.not_eq_false', Bool.not_not, decide_eq_true_eq, decide_eq_false_iff_not, beq_iff_eq, bne_iff_ne, beq_eq_false_iff_ne, bne_eq_false_iff_eq, ne_eq, Bool.and_eq_true, Bool.and_eq_false_iff, Bool.or_eq_true, Bool.or_eq_false_iff, Int.toNat_natCast, Nat.zero_add, Int.ofNat_lt, Int.ofNat_le, List.length_cons, List.length_nil, List.drop_zero, List.take_length] at *)
  all_goals first
    | omega
    | exact (tdiv_in h2 h3).1 | exact (tdiv_in h2 h3).2 | exact (tdiv_in h4 h5).1 | exact (tdiv_in h4 h5).2
    | exact h7 (by rw [gsgn_neg (by assumption)]; assumption) | exact h7 (by rw [gsgn_pos (by assumption)]; assumption)
    | rw [lowRt_f (by rw [gsgn_neg (by assumption)]; assumption)]
    | rw [lowRt_f (by rw [gsgn_pos (by assumption)]; assumption)]
    | (rw [lowRt_t (by rw [gsgn_neg (by assumption)]; assumption)]; rw [gsgn_neg (by assumption)])
    | (rw [lowRt_t (by rw [gsgn_pos (by assumption)]; assumption)]; rw [gsgn_pos (by assumption)])
    | rw [lowRt_t (by rw [gsgn_neg (by assumption)]; assumption)]
    | rw [lowRt_t (by rw [gsgn_pos (by assumption)]; assumption)]

theorem ok_spec_raMake : GSpec Tryz.prog s_spec_raMake := by
  refine fn_known tab_ok fol (((Known.nil.cons ok_spec_raCommon (by kernel_rfl)).cons ok_spec_l1Abs (by kernel_rfl)).cons ok_spec_raGood (by kernel_rfl)) (by decide) Tryz.func108 ?_
  rintro ⟨(n : Int), (d : Int), ⟨⟩⟩ hl ⟨h1, h2, h3, h4, _⟩
  have h6 := fun h => gcd_bd (n := n) (d := d) h
  have h7 := fun h => gsgn_ne (n := n) (d := d) h
  have h8 := gcd_nn n d
  repeat' (first | with_reducible apply andAll_cons | with_reducible apply andAll_nil | (with_reducible apply Cf.mk; kernel_rfl) | apply And.intro | intro _ | exact True.intro | apply Lf.mk)
  all_goals (try simp only [Bool.not_eq_true', Bool.not_eq_false', Bool.not_not, decide_eq_true_eq, decide_eq_false_iff_not, beq_iff_eq, bne_iff_ne, beq_eq_false_iff_ne, bne_eq_false_iff_eq, ne_eq, Bool.and_eq_true, Bool.and_eq_false_iff, Bool.or_eq_true, Bool.or_eq_false_iff, Int.toNat_natCast, Nat.zero_add, Int.ofNat_lt, Int.ofNat_le, List.length_cons, List.length_nil, List.drop_zero, List.take_length] at *)
  all_goals (try rw [h8] at *)
  all_goals first
    | omega
    | exact (tdiv_in h1 h2).1 | exact (tdiv_in h1 h2).2 | exact (tdiv_in h3 h4).1 | exact (tdiv_in h3 h4).2
    | (rename_i h8; rw [h8, lowRt_zero])
    | exact h7 (by assumption) (by rw [gsgn_neg (by assumption)]; assumption) | exact h7 (by assumption) (by rw [gsgn_pos (by assumption)]; assumption)
    | rw [lowRt_f (by rw [gsgn_neg (by assumption)]; assumption)]
    | rw [lowRt_f (by rw [gsgn_pos (by assumption)]; assumption)]
    | (rw [lowRt_t (by rw [gsgn_neg (by assumption)]; assumption)]; rw [gsgn_neg (by assumption)])
    | (rw [lowRt_t (by rw [gsgn_pos (by assumption)]; assumption)]; rw [gsgn_pos (by assumption)])
    | rw [lowRt_t (by rw [gsgn_neg (by assumption)]; assumption)]
    | rw [lowRt_t (by rw [gsgn_pos (by assumption)]; assumption)]
end Go.Vx
namespace Go.Vx
open Go

def cfA : Nat → Int → Int → List Int
  | 0, _, _ => []
  | f + 1, n, d => if d = 0 then [] else n / d :: cfA f d (n % d)
def cf (n d : Int) : List Int := cfA (d.toNat + 1) n d

theorem cfA_more : ∀ (f g : Nat) (n d : Int), 0 ≤ d → d.toNat < f → d.toNat < g → cfA f n d = cfA g n d
  | 0, _, _, _, _, h, _ => by omega
  | _, 0, _, _, _, _, h => by omega
  | f + 1, g + 1, n, d, h0, h1, h2 => by
    simp only [cfA]
    by_cases hd : d = 0
    · rw [if_pos hd, if_pos hd]
    · have := Int.emod_nonneg n hd
      have := Int.emod_lt_of_pos n (b := d) (by omega)
      rw [if_neg hd, if_neg hd, cfA_more f g d (n % d) (by omega) (by omega) (by omega)]
theorem cf_zero (n : Int) : cf n 0 = [] := by simp [cf, cfA]
theorem cf_pos {n d : Int} (h : 0 < d) : cf n d = n / d :: cf d (n % d) := by
  have h1 := Int.emod_nonneg n (show d ≠ 0 by omega)
  have h2 := Int.emod_lt_of_pos n h
  unfold cf
  rw [cfA, if_neg (by omega), cfA_more d.toNat ((n % d).toNat + 1) d (n % d) h1 (by omega) (by omega)]
theorem cfA_length : ∀ (f : Nat) (n d : Int), (cfA f n d).length ≤ f
  | 0, _, _ => by simp [cfA]
  | f + 1, n, d => by
    simp only [cfA]
    split
    · simp
    · simp [cfA_length f]
theorem cf_length (n d : Int) : (cf n d).length ≤ d.toNat + 1 := cfA_length _ _ _

theorem floor_eq {a b : Int} (h : 0 < b) : (if a.tmod b < 0 then a.tdiv b - 1 else a.tdiv b) = a / b := by
  have h1 := Int.tmod_add_mul_tdiv a b
  have h2 := Int.tmod_lt_of_pos a h
  have h3 : -b < a.tmod b := by
    have h4 := Int.tmod_lt_of_pos (-a) h
    rw [Int.neg_tmod] at h4
    omega
  generalize a.tmod b = r at *
  generalize a.tdiv b = q at *
  split
  · symm
    apply ((Int.ediv_emod_unique h).2 ⟨?_, (show 0 ≤ r + b by omega), by omega⟩).1
    rw [Int.mul_sub]
    omega
  · symm
    apply ((Int.ediv_emod_unique h).2 ⟨?_, (show 0 ≤ r by omega), h2⟩).1
    omega
theorem floor_lt {a b : Int} (h : 0 < b) (h2 : a.tmod b < 0) : a.tdiv b - 1 = a / b := by rw [← floor_eq h, if_pos h2]
theorem floor_ge {a b : Int} (h : 0 < b) (h2 : ¬ a.tmod b < 0) : a.tdiv b = a / b := by rw [← floor_eq h, if_neg h2]
theorem ediv_mul (a b : Int) : a / b * b = a - a % b := by
  have := Int.emod_add_mul_ediv a b
  rw [Int.mul_comm]; omega
theorem ediv_bd {a b : Int} (h : 0 < b) {M : Int} (h1 : -M ≤ a) (h2 : a ≤ M) (h0 : 0 ≤ M) : -M ≤ a / b ∧ a / b ≤ M := by
  constructor
  · rw [Int.le_ediv_iff_mul_le h]
    have := Int.mul_le_mul_of_nonneg_left (show 1 ≤ b by omega) h0
    have e : -M * b = -(M * b) := Int.neg_mul M b
    omega
  · apply Int.ediv_le_of_le_mul h
    have := Int.mul_le_mul_of_nonneg_left (show 1 ≤ b by omega) h0
    omega
end Go.Vx
namespace Go.Vx
open Go

noncomputable def unitRt (r : Rt) : Bool := goodRt r && (decide (0 ≤ r.num) && decide (r.num ≤ r.den))
theorem unitRt_iff {r : Rt} : unitRt r = true ↔ (goodRt r = true ∧ 0 ≤ r.num ∧ r.num ≤ r.den) := by
  simp [unitRt]
def sbNum (a : Rt) (den : Int) : Int := a.num * den / a.den + 1
def sbOk (a b : Rt) (den : Int) : Bool := decide (sbNum a den * b.den < b.num * den)
def sbFind (a b : Rt) : Option Nat := (List.range 1000).find? fun i => sbOk a b ((i : Int) + 1)
theorem gsgn_one {n d : Int} (h : 0 < d) (h2 : (Int.gcd n d : Int) = 1) : gsgn n d = 1 := by
  unfold gsgn; rw [if_neg (by omega)]; exact h2
theorem lowRt_good {n d : Int} (h : goodRt ⟨n, d⟩ = true) : lowRt n d = (⟨n, d⟩, true) := by
  have h1 := goodRt_iff.1 h
  dsimp only at h1
  unfold lowRt
  rw [gsgn_one (by omega) h1.2.2.2.2, Int.tdiv_one, Int.tdiv_one, h]
theorem sbNum_gt {a : Rt} (ha : goodRt a = true) (den : Int) : a.num * den < sbNum a den * a.den := by
  have h1 := goodRt_iff.1 ha
  unfold sbNum
  have h2 := Int.emod_lt_of_pos (a.num * den) (b := a.den) (by omega)
  have h3 := ediv_mul (a.num * den) a.den
  rw [Int.add_mul]
  omega
theorem sbNum_le {a : Rt} (ha : goodRt a = true) {den n : Int} (h : a.num * den < n * a.den) : sbNum a den ≤ n := by
  have h1 := goodRt_iff.1 ha
  unfold sbNum
  have : a.num * den / a.den < n := Int.ediv_lt_of_lt_mul (by omega) h
  omega
theorem sb_good {a b : Rt} (ha : unitRt a = true) (hb : unitRt b = true) {i : Nat} (h : sbFind a b = some i) : goodRt ⟨sbNum a ((i : Int) + 1), (i : Int) + 1⟩ = true := by
  obtain ⟨ga, a0, a1⟩ := unitRt_iff.1 ha
  obtain ⟨gb, b0, b1⟩ := unitRt_iff.1 hb
  have pa := goodRt_iff.1 ga
  have pb := goodRt_iff.1 gb
  unfold sbFind at h
  rw [List.find?_eq_some_iff_getElem] at h
  obtain ⟨hok, j, hj, hji, hfirst⟩ := h
  simp at hji hj
  subst hji
  have hok : sbNum a ((j : Int) + 1) * b.den < b.num * ((j : Int) + 1) := by simpa [sbOk] using hok
  have hgt := sbNum_gt ga ((j : Int) + 1)
  generalize hn : sbNum a ((j : Int) + 1) = n at *
  have hd0 : (0 : Int) < (j : Int) + 1 := by omega
  have hn0 : 0 < n := by
    have h0 : 0 ≤ a.num * ((j : Int) + 1) := Int.mul_nonneg a0 (by omega)
    have h1 : 0 < n * a.den := by omega
    exact Int.pos_of_mul_pos_left (a := n) (b := a.den) h1 (by omega)
  have hn1 : n ≤ (j : Int) + 1 := by
    have h1 : b.num * ((j : Int) + 1) ≤ b.den * ((j : Int) + 1) := Int.mul_le_mul_of_nonneg_right b1 (by omega)
    have h2 : n * b.den < ((j : Int) + 1) * b.den := by rw [Int.mul_comm ((j : Int) + 1)]; omega
    exact Int.le_of_lt (Int.lt_of_mul_lt_mul_right h2 (by omega))
  have hg : Int.gcd n ((j : Int) + 1) = 1 := by
    rcases Nat.lt_or_ge 1 (Int.gcd n ((j : Int) + 1)) with h1 | h1
    · exfalso
      obtain ⟨n', en⟩ := Int.gcd_dvd_left n ((j : Int) + 1)
      obtain ⟨d', ed⟩ := Int.gcd_dvd_right n ((j : Int) + 1)
      generalize (Int.gcd n ((j : Int) + 1)) = g at *
      have hd' : 0 < d' := Int.pos_of_mul_pos_right (a := (g : Int)) (b := d') (by omega) (by omega)
      have hlt : d' < (j : Int) + 1 := by
        have : d' * 2 ≤ d' * (g : Int) := Int.mul_le_mul_of_nonneg_left (by omega) (by omega)
        rw [Int.mul_comm d' (g : Int)] at this
        omega
      have e1 : a.num * d' < n' * a.den := by
        have : (g : Int) * (a.num * d') < (g : Int) * (n' * a.den) := by
          have q1 : (g : Int) * (a.num * d') = a.num * ((j : Int) + 1) := by rw [ed]; simp only [Int.mul_left_comm]
          have q2 : (g : Int) * (n' * a.den) = n * a.den := by rw [en, Int.mul_assoc]
          rw [q1, q2]; exact hgt
        exact Int.lt_of_mul_lt_mul_left this (by omega)
      have e2 : n' * b.den < b.num * d' := by
        have : (g : Int) * (n' * b.den) < (g : Int) * (b.num * d') := by
          have q1 : (g : Int) * (b.num * d') = b.num * ((j : Int) + 1) := by rw [ed]; simp only [Int.mul_left_comm]
          have q2 : (g : Int) * (n' * b.den) = n * b.den := by rw [en, Int.mul_assoc]
          rw [q1, q2]; exact hok
        exact Int.lt_of_mul_lt_mul_left this (by omega)
      have e3 := sbNum_le ga e1
      have e4 : sbNum a d' * b.den ≤ n' * b.den := Int.mul_le_mul_of_nonneg_right e3 (by omega)
      have hk := hfirst (d' - 1).toNat (by omega)
      have e5 : ((((d' - 1).toNat : Nat) : Int) + 1) = d' := by omega
      rw [List.getElem_range, Bool.not_eq_true', sbOk, decide_eq_false_iff_not, e5] at hk
      omega
    · have : Int.gcd n ((j : Int) + 1) ≠ 0 := by intro h2; have := (Int.gcd_eq_zero_iff.1 h2).2; omega
      omega
  rw [goodRt_iff]
  dsimp only
  omega
end Go.Vx
namespace Go.Vx
open Go

noncomputable def addRt (a b : Rt) : Rt × Bool := lowRt (a.num * b.den + b.num * a.den) (a.den * b.den)
noncomputable def subRt (a b : Rt) : Rt × Bool := lowRt (a.num * b.den - b.num * a.den) (a.den * b.den)
noncomputable def mulRt (a b : Rt) : Rt × Bool := lowRt (a.num * b.num) (a.den * b.den)
noncomputable def divRt (a b : Rt) : Rt × Bool := lowRt (a.num * b.den) (a.den * b.num)
/-- a result, or 0 -/
@[irreducible] def opR (r : Rt × Bool) : Rt := match r.2 with
  | true => r.1
  | false => ⟨0, 1⟩
/-- between the bounds, the denominator 0 too -/
def okRt (r : Rt) : Bool := decide (0 ≤ r.den ∧ r.den ≤ 1000000000 ∧ -1000000000 ≤ r.num ∧ r.num ≤ 1000000000)
theorem okRt_iff {r : Rt} : okRt r = true ↔ (0 ≤ r.den ∧ r.den ≤ 1000000000 ∧ -1000000000 ≤ r.num ∧ r.num ≤ 1000000000) := by simp [okRt]
theorem ok_good {r : Rt} (h : goodRt r = true) : okRt r = true := by
  rw [goodRt_iff] at h; rw [okRt_iff]; omega
theorem lowRt_good1 {n d : Int} (h : (lowRt n d).2 = true) : goodRt (lowRt n d).1 = true := by
  unfold lowRt at h ⊢
  split at h
  · rename_i h1; exact h1
  · cases h
theorem lowRt_bad {n d : Int} (h : (lowRt n d).2 = false) : lowRt n d = (⟨0, 0⟩, false) := by
  unfold lowRt at h ⊢
  split at h
  · cases h
  · rfl
theorem lowRt_ok {n d : Int} : okRt (lowRt n d).1 = true := by
  cases h : (lowRt n d).2
  · rw [lowRt_bad h]; exact okRt_iff.2 (by decide)
  · exact ok_good (lowRt_good1 h)
theorem good_zero : goodRt ⟨0, 1⟩ = true := goodRt_iff.2 (by decide)
theorem good_one : goodRt ⟨1, 1⟩ = true := goodRt_iff.2 (by decide)
theorem good_whole {n : Int} (h : -1000000000 ≤ n ∧ n ≤ 1000000000) : goodRt ⟨n, 1⟩ = true := by
  rw [goodRt_iff]; dsimp only; rw [Int.gcd_one]; omega
theorem opR_good {n d : Int} : goodRt (opR (lowRt n d)) = true := by
  unfold opR
  split
  · rename_i h; exact lowRt_good1 h
  · exact good_zero
theorem okmul {a b : Rt} (ha : okRt a = true) (hb : okRt b = true) : (-1000000000000000000 ≤ a.num * b.den ∧ a.num * b.den ≤ 1000000000000000000) ∧ (-1000000000000000000 ≤ b.num * a.den ∧ b.num * a.den ≤ 1000000000000000000) ∧
    (-1000000000000000000 ≤ a.num * b.num ∧ a.num * b.num ≤ 1000000000000000000) ∧ (0 ≤ a.den * b.den ∧ a.den * b.den ≤ 1000000000000000000) ∧ (-1000000000000000000 ≤ a.den * b.num ∧ a.den * b.num ≤ 1000000000000000000) := by
  rw [okRt_iff] at ha hb
  have h1 := mul_bd (A := 1000000000) (B := 1000000000) (a := a.num) (b := b.den) (by omega) (by omega) (by omega) (by omega) (by omega)
  have h2 := mul_bd (A := 1000000000) (B := 1000000000) (a := b.num) (b := a.den) (by omega) (by omega) (by omega) (by omega) (by omega)
  have h3 := mul_bd (A := 1000000000) (B := 1000000000) (a := a.num) (b := b.num) (by omega) (by omega) (by omega) (by omega) (by omega)
  have h4 := mul_bd (A := 1000000000) (B := 1000000000) (a := a.den) (b := b.den) (by omega) (by omega) (by omega) (by omega) (by omega)
  have h5 := mul_bd (A := 1000000000) (B := 1000000000) (a := a.den) (b := b.num) (by omega) (by omega) (by omega) (by omega) (by omega)
  have h6 := Int.mul_nonneg (a := a.den) (b := b.den) (by omega) (by omega)
  refine ⟨?_, ?_, ?_, ?_, ?_⟩ <;> first | (constructor <;> omega)
theorem good_neg {b : Rt} (h : okRt b = true) : goodRt ⟨0 - b.num, b.den⟩ = goodRt b := by
  have e : Int.gcd (0 - b.num) b.den = Int.gcd b.num b.den := by simp [Int.gcd]
  rw [Bool.eq_iff_iff, goodRt_iff, goodRt_iff]
  dsimp only
  rw [e]
  omega
theorem add_neg {a b : Rt} : addRt a ⟨0 - b.num, b.den⟩ = subRt a b := by
  unfold addRt subRt
  dsimp only
  congr 1
  rw [Int.sub_mul]
  omega

/-- the numbers of a continued fraction put together, from the last one on -/
noncomputable def fcR : List Int → Rt × Bool
  | [] => (⟨0, 0⟩, false)
  | [a] => (⟨a, 1⟩, true)
  | a :: r => match fcR r with
    | (o, true) => match divRt ⟨1, 1⟩ o with
      | (b, true) => addRt ⟨a, 1⟩ b
      | (_, false) => (⟨0, 0⟩, false)
    | (_, false) => (⟨0, 0⟩, false)
theorem fcR_cons {a : Int} {r : List Int} (h : r ≠ []) : fcR (a :: r) = match fcR r with
    | (o, true) => match divRt ⟨1, 1⟩ o with
      | (b, true) => addRt ⟨a, 1⟩ b
      | (_, false) => (⟨0, 0⟩, false)
    | (_, false) => (⟨0, 0⟩, false) := by
  cases r with
  | nil => exact (h rfl).elim
  | cons b r => rfl
theorem fcR_bad : ∀ {l : List Int}, (fcR l).2 = false → fcR l = (⟨0, 0⟩, false)
  | [], _ => rfl
  | [a], h => by cases h
  | a :: b :: r, h => by
    rw [fcR_cons (by simp)] at h ⊢
    split at h
    · split at h
      · exact lowRt_bad h
      · rfl
    · rfl
theorem fcR_cons_bad {a : Int} {r : List Int} (h : r ≠ []) (h2 : (fcR r).2 = false) : (fcR (a :: r)).2 = false := by
  rw [fcR_cons h, fcR_bad h2]
theorem fcR_div {a : Int} {r : List Int} {o : Rt} (h : r ≠ []) (h1 : fcR r = (o, true)) (h2 : (divRt ⟨1, 1⟩ o).2 = false) : (fcR (a :: r)).2 = false := by
  rw [fcR_cons h, h1]
  have : divRt ⟨1, 1⟩ o = (⟨0, 0⟩, false) := lowRt_bad h2
  dsimp only
  rw [this]
theorem fcR_add {a : Int} {r : List Int} {o : Rt} (h : r ≠ []) (h1 : fcR r = (o, true)) (h2 : (divRt ⟨1, 1⟩ o).2 = true) : fcR (a :: r) = addRt ⟨a, 1⟩ (divRt ⟨1, 1⟩ o).1 := by
  rw [fcR_cons h, h1]
  have : divRt ⟨1, 1⟩ o = ((divRt ⟨1, 1⟩ o).1, true) := Prod.ext rfl h2
  dsimp only
  rw [this]
theorem fcR_drop_bad {l : List Int} : ∀ {m j : Nat}, j ≤ m → m < l.length → (fcR (l.drop m)).2 = false → (fcR (l.drop j)).2 = false
  | 0, j, h, _, hb => by have : j = 0 := by omega
                         subst this; exact hb
  | m + 1, j, h, hm, hb => by
    rcases Nat.lt_or_eq_of_le h with h1 | rfl
    · refine fcR_drop_bad (m := m) (j := j) (by omega) (by omega) ?_
      rw [List.drop_eq_getElem_cons (by omega : m < l.length)]
      exact fcR_cons_bad (by intro h2; have := congrArg List.length h2; simp at this; omega) hb
    · exact hb
theorem opR_t {r : Rt × Bool} (h : r.2 = true) : opR r = r.1 := by unfold opR; rw [h]
theorem pair_t {r : Rt × Bool} (h : r.2 = true) : r = (r.1, true) := Prod.ext rfl h
end Go.Vx
