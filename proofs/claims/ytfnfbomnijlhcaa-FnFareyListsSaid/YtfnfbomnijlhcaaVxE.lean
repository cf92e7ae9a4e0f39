/- Continued fractions: the program's functions and the reference's return the same. -/
import Derived.Test.YtfnfbomnijlhcaaVxC
import Derived.Test.YtfnfbomnijlhcaaVxL
import Derived.Test.YtfnfbomnijlhcaaVpCf
namespace Go.Vx
open Go Go.Proofs
set_option maxRecDepth 100000
set_option linter.unusedSimpArgs false
set_option linter.unusedVariables false

noncomputable def s_impl_floorDivide : Sig := ⟨69, [.val NI, .val NI], [.val NI], fun ((a : Int), (b : Int), _) => ⟨[0 < b, -9223372036854775808 < a, a ≤ 9223372036854775807], (a / b, ()), ()⟩⟩
theorem ok_impl_floorDivide : GSpec Try.prog s_impl_floorDivide := by
  refine fn_known tab_ok fol Known.nil (by decide) Try.func69 ?_
  rintro ⟨(a : Int), (b : Int), ⟨⟩⟩ hl ⟨h1, h2, h3, _⟩
  have h4 := @tdiv_bd a b
  repeat' (first | with_reducible apply andAll_cons | with_reducible apply andAll_nil | (with_reducible apply Cf.mk; kernel_rfl) | apply And.intro | intro _ | exact True.intro | apply Lf.mk)
  all_goals (try simp only [Bool.not_eq_true', Bool.not_eq_false', Bool.not_not, decide_eq_true_eq, decide_eq_false_iff_not, beq_iff_eq, bne_iff_ne, beq_eq_false_iff_ne, bne_eq_false_iff_eq, ne_eq, Bool.and_eq_true, Bool.and_eq_false_iff, Bool.or_eq_true, Bool.or_eq_false_iff, Int.toNat_natCast, Nat.zero_add, Int.ofNat_lt, Int.ofNat_le, List.length_cons, List.length_nil, List.drop_zero, List.take_length] at *)
  all_goals first | omega | exact floor_lt h1 (by assumption) | exact floor_ge h1 (by assumption) | skip

noncomputable def cfRes (x : Rt) : List Int × Bool := match goodRt x with
  | true => (cf x.num x.den, true)
  | false => ([], false)
theorem cfRes_length (x : Rt) : (cfRes x).1.length ≤ 1000000001 := by
  unfold cfRes
  split
  · rename_i h
    have := (goodRt_iff.1 h)
    have := cf_length x.num x.den
    show (cf x.num x.den).length ≤ _
    omega
  · simp
end Go.Vx
