/- For all arguments the law FnExactFollowPath returns true; there are no further conditions. -/
import Derived.Test.YtbobepdmphmgbaaDoorVxRow
import Derived.Test.YtbobepdmphmgbaaDoorVxFw
import Derived.Test.YtbobepdmphmgbaaDoorVxLP
import Derived.Test.YtbobepdmphmgbaaDoorCards
import Derived.Test.YtbobepdmphmgbaaDoorTie
import Derived.ProofKit
import Derived.OpenShut
import Derived.Deep.DeepHandedRow
import Derived.Lib.LaidTab
namespace Go.Vx
open Go Go.Proofs
set_option maxRecDepth 100000
set_option linter.unusedSimpArgs false
set_option linter.unusedVariables false

noncomputable def s_laws_FnExactFollowPath : Sig := ⟨3, [.val .str], [.val .bool], fun ((_ : ByteArray), _) => ⟨[], (true, ()), ()⟩⟩

theorem ok_laws_FnExactFollowPath : GSpec Tryd.prog s_laws_FnExactFollowPath := by
  refine fn_known tab_ok fol (((Known.nil.cons ok_laws_eqRat (by kernel_rfl)).cons ok_impl_FollowPath (by kernel_rfl)).cons ok_spec_FollowPath (by kernel_rfl)) (by decide) Tryd.func3 ?_
  rintro ⟨(x0 : ByteArray), ⟨⟩⟩ ⟨_⟩ _
  repeat' (first | with_reducible apply andAll_cons | with_reducible apply andAll_nil | (with_reducible apply Cf.mk; kernel_rfl) | apply And.intro | intro _ | exact True.intro | apply Lf.mk)
  all_goals (try simp only [List.drop_zero, List.take_length, mkI_length, mkR_length, mkPt_length, mkIv_length, if_true, decide_true, Bool.not_true, Bool.false_eq_true, bne_self_eq_false, beq_self_eq_true, decide_eq_true_eq, decide_eq_false_iff_not] at *)
  all_goals first | omega | rfl | contradiction | (simp_all; done) | skip
end Go.Vx
namespace Go.Proofs.YtbobepdmphmgbaaDoor
open Go.Vx Go.ChangeShapes Go.WideShapes Go.ChangeAt Go.RowKit

theorem own : ownKnob Tryd.prog.godebug = none := by kernel_rfl
/-- the cells of a table -/
def cellsOfLits : List (DataW Unit) → List Value
  | .lit (.int k n) :: r => .int k n :: cellsOfLits r
  | .agg [.lit (.int k n), .lit (.int k' n')] :: r => .int k n :: .int k' n' :: cellsOfLits r
  | _ => []
def tableOf : DataW Unit → Array Value
  | .agg l => (cellsOfLits l).toArray
  | _ => #[]
def putTable (a : Array Value) : Obj → Obj
  | .cells _ t frozen => .cells a t frozen
  | o => o
/-- A world for the witness: the settled one, the two tables holding what their initialisers lay. -/
noncomputable def laidWorld (os : Os) : World :=
  { World.holding Tryd.prog os ⟨#[], #[], []⟩ with heap := ((World.holding Tryd.prog os ⟨#[], #[], []⟩).heap.modify 0 (putTable (tableOf Rows.laid_unicode_utf8_first))).modify 1 (putTable (tableOf Rows.laid_unicode_utf8_acceptRanges)) }
theorem laid_met (os : Os) : laidMet Tryd.prog Rows.fnExactFollowPathRow.laid ((laidWorld os).forCall (fun _ _ => 0) ⟨#[], #[.string ByteArray.empty], []⟩).memory :=
  laidMet_of_run' 8 (by kernel_rfl) (by kernel_rfl)
theorem reads (os : Os) {H : Type} (enc : TypeId × Value → H) : ∃ places, DataW.whole enc Tryd.prog ((laidWorld os).forCall (fun _ _ => 0) ⟨#[], #[.string ByteArray.empty], []⟩).memory Tryd.f3.params.toList Rows.fnExactFollowPathSpec.vars false #[Value.string ByteArray.empty].toList 8 = some ([.lit (.string [])], [], places) :=
  ⟨[], by kernel_rfl⟩

set_option maxRecDepth 100000 in
theorem lifted (os : Os) (started : os.Started) (H : Type) (enc : TypeId × Value → H) (F : Stop.Interp) :
    ReturnsInHanded {} Tryd.checked os 3 .any ((OpenSpec.ofChange Rows.fnExactFollowPathSpec).preRow enc Tryd.prog Tryd.f3 Rows.fnExactFollowPathRow.domain false Rows.fnExactFollowPathRow.laid) (((OpenSpec.ofChange Rows.fnExactFollowPathSpec).at F).post enc Tryd.prog Tryd.f3 false true false false) := by
  obtain ⟨places, hx⟩ := reads os enc
  refine returnsInHanded_of_row (C := Tryd.checked) (s := OpenSpec.ofChange Rows.fnExactFollowPathSpec) own started (by kernel_rfl) Tryd.func3
    (witness_row_at (enc := enc) (C := Tryd.checked) false (laidWorld os) #[.string ByteArray.empty] rfl (by kernel_rfl) (by kernel_rfl) (by kernel_rfl)
      (OpenSpec.preRow_of_cond 8 hx (by kernel_rfl) (fun k hk => by cases hk) (by kernel_rfl) (laid_met os))) ?_
  intro W base args ds gs before hval hW _ _ _ hL _ _
  exact law_post (s := s_laws_FnExactFollowPath) (by kernel_rfl) ok_laws_FnExactFollowPath (by kernel_rfl) (tb := 4) rfl (by kernel_rfl) rfl (fun x hx => ⟨trivial, rfl⟩) rfl
    (fun ds hds => by match ds, hds with | [_], _ => rfl) hval hW

theorem said : Rows.FnExactFollowPathSaid :=
  OpenClaim.holds_of_cond 3 Tryd.f3 rfl rfl rfl rfl rfl rfl rfl ⟨rfl, rfl, rfl, rfl, rfl⟩ rfl rfl rfl rfl rfl (by kernel_rfl) Tryd.func3 (by kernel_rfl)
    (of_decide_eq_true (by kernel_rfl)) (by unfold Func.isWrapper; first | (rw [if_pos (by decide +kernel)]; kernel_rfl) | (rw [if_neg (by decide +kernel)]; exact ⟨rfl, rfl⟩))
    (fun os started H enc _ F => by rw [OpenClaim.pre_eq_preRow]; exact lifted os started H enc F)

theorem plain (f : FuncId) (fn : Func) (hf : Tryd.pinned.checked.prog.funcNamed "loop.example/g01003/laws.FnExactFollowPath" = some f) (hfn : Tryd.pinned.checked.prog.funcs[f]? = some fn) :
    false = Tryd.pinned.checked.prog.looks [] ∧ ∀ (j : Nat) t, fn.params[j]? = some t → Tryd.pinned.checked.prog.wantsStandIn t = false := by
  obtain rfl : f = 3 := Option.some.inj ((show Tryd.prog.funcNamed "loop.example/g01003/laws.FnExactFollowPath" = some 3 by kernel_rfl).symm.trans hf) |>.symm
  obtain rfl : fn = Tryd.f3 := (Option.some.inj (Tryd.func3.symm.trans hfn)).symm
  refine ⟨by kernel_rfl, fun j t ht => ?_⟩
  rw [Tryd.params3] at ht
  obtain rfl : t = 9 := by simpa using Array.mem_of_getElem? ht
  exact (show Tryd.prog.wantsStandIn 9 = false by kernel_rfl)

theorem fnExactFollowPath_holds : Rows.FnExactFollowPathCardSaid :=
  Claim7.holds_tied_plain_at .later [] _ _ _ _ said (fun _ h => by cases h) (by kernel_rfl) (fun _ h => by cases h) fnExactFollowPath_row_tie rfl ⟨rfl, rfl⟩ (by kernel_rfl) rfl plain (by kernel_rfl)
end Go.Proofs.YtbobepdmphmgbaaDoor
