/- Computing with fractions: the program's functions and the reference's. -/
import Derived.Test.YtfnfbomnijlhcaaVxC
import Derived.Test.YtfnfbomnijlhcaaVpQ
namespace Go.Vx
open Go Go.Proofs
set_option maxRecDepth 100000
set_option linter.unusedSimpArgs false
set_option linter.unusedVariables false

noncomputable def guardR (a b : Rt) (r : Rt × Bool) : Rt × Bool := match goodRt a && goodRt b with
  | true => r
  | false => (⟨0, 0⟩, false)
theorem guardR_t {a b : Rt} {r : Rt × Bool} (h1 : goodRt a = true) (h2 : goodRt b = true) : guardR a b r = r := by unfold guardR; rw [h1, h2]; rfl
noncomputable def s_impl_zero : Sig := ⟨51, [], [.val .rat], fun _ => ⟨[], ((⟨0, 1⟩ : Rt), ()), ()⟩⟩
theorem ok_impl_zero : GSpec Try.prog s_impl_zero := by
  refine fn_known tab_ok fol Known.nil (by decide) Try.func51 ?_
  rintro ⟨⟩ hl _
  repeat' (first | with_reducible apply andAll_cons | with_reducible apply andAll_nil | (with_reducible apply Cf.mk; kernel_rfl) | apply And.intro | intro _ | exact True.intro | apply Lf.mk)
  all_goals rfl
noncomputable def s_spec_raInt : Sig := ⟨72, [.val NI], [.val .rat], fun ((n : Int), _) => ⟨[], ((⟨n, 1⟩ : Rt), ()), ()⟩⟩
theorem ok_spec_raInt : GSpec Try.prog s_spec_raInt := by
  refine fn_known tab_ok fol Known.nil (by decide) Try.func72 ?_
  rintro ⟨(n : Int), ⟨⟩⟩ hl _
  repeat' (first | with_reducible apply andAll_cons | with_reducible apply andAll_nil | (with_reducible apply Cf.mk; kernel_rfl) | apply And.intro | intro _ | exact True.intro | apply Lf.mk)
  all_goals rfl
end Go.Vx
