/- A walker down the tree of fractions: the program's methods; the path to a fraction: the reference's function. -/
import Derived.Test.YtbobepdmphmgbaaDoorVxC
import Derived.Test.YtbobepdmphmgbaaDoorVxF
import Derived.Test.YtbobepdmphmgbaaDoorVpPa
namespace Go.Vx
open Go Go.Proofs
set_option maxRecDepth 100000
set_option linter.unusedSimpArgs false
set_option linter.unusedVariables false

abbrev wkT : Nat := 46
noncomputable def s_walker_here : Sig := ⟨13, [.cell wkT .pt], [.val .rat], fun ((p : Pt), _) => ⟨[smallP p], (hereP p, ()), (p, ())⟩⟩
theorem ok_walker_here : GSpec Tryd.prog s_walker_here := by
  refine fn_known tab_ok fol Known.nil (by decide) Tryd.func13 ?_
  rintro ⟨⟨⟨(a : Int), (b : Int)⟩, ⟨(c : Int), (d : Int)⟩⟩, ⟨⟩⟩ - ⟨h1, _⟩
  unfold smallP at h1
  dsimp only at h1
  repeat' (first | with_reducible apply andAll_cons | with_reducible apply andAll_nil | (with_reducible apply Cf.mk; kernel_rfl) | apply And.intro | intro _ | exact True.intro | apply Lf.mk)
  all_goals first | omega | rfl | trace_state
noncomputable def s_walker_turn : Sig := ⟨11, [.cell wkT .pt, .val .bool], [], fun ((p : Pt), (l : Bool), _) => ⟨[smallP p], (), (turnP p l, ())⟩⟩
theorem ok_walker_turn : GSpec Tryd.prog s_walker_turn := by
  refine fn_known tab_ok fol (Known.nil.cons ok_walker_here (by kernel_rfl)) (by decide) Tryd.func11 ?_
  rintro ⟨⟨⟨(a : Int), (b : Int)⟩, ⟨(c : Int), (d : Int)⟩⟩, (l : Bool), ⟨⟩⟩ - ⟨h1, _⟩
  repeat' (first | with_reducible apply andAll_cons | with_reducible apply andAll_nil | (with_reducible apply Cf.mk; kernel_rfl) | apply And.intro | intro _ | exact True.intro | apply Lf.mk)
  all_goals first | exact h1 | rfl | (simp [turnP, hereP, *]; done) | trace_state
end Go.Vx
