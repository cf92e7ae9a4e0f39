/- For all arguments the law FnExactStaircaseText returns true; there are no further conditions. -/
import Derived.Test.YtfnfbomnijlhcaaDoorVxRow
import Derived.Test.YtfnfbomnijlhcaaDoorVxSt
import Derived.Test.YtfnfbomnijlhcaaDoorVxLP
import Derived.Test.YtfnfbomnijlhcaaDoorCards
import Derived.Test.YtfnfbomnijlhcaaDoorTie
import Derived.ProofKit
import Derived.OpenShut
import Derived.Deep.DeepHandedRow
import Derived.Lib.LaidTab
namespace Go.Vx
open Go Go.Proofs
set_option maxRecDepth 100000
set_option linter.unusedSimpArgs false
set_option linter.unusedVariables false

noncomputable def s_laws_FnExactStaircaseText : Sig := ⟨4, [.list .rat], [.val .bool], fun ((_ : List Rt), _) => ⟨[], (true, ()), ()⟩⟩

theorem ok_laws_FnExactStaircaseText : GSpec Tryd.prog s_laws_FnExactStaircaseText := by
  refine fn_known tab_ok fol (((((Known.nil.cons ok_laws_szRatS (by kernel_rfl)).cons ok_laws_toRatS (by kernel_rfl)).cons ok_laws_eqRatS (by kernel_rfl)).cons ok_impl_StaircaseText (by kernel_rfl)).cons ok_spec_StaircaseText (by kernel_rfl)) (by decide) Tryd.func4 ?_
  rintro ⟨(x0 : List Rt), ⟨⟩⟩ ⟨hlx0, _⟩ _
  have hlx0 : x0.length ≤ 9223372036854775807 := hlx0
  repeat' (first | with_reducible apply andAll_cons | with_reducible apply andAll_nil | (with_reducible apply Cf.mk; kernel_rfl) | apply And.intro | intro _ | exact True.intro | apply Lf.mk)
  all_goals (try simp only [List.drop_zero, List.take_length, mkI_length, mkR_length, mkPt_length, mkIv_length, if_true, decide_true, Bool.not_true, Bool.false_eq_true, bne_self_eq_false, beq_self_eq_true, decide_eq_true_eq, decide_eq_false_iff_not] at *)
  all_goals first | omega | rfl | contradiction | (simp_all; done) | skip
end Go.Vx
namespace Go.Proofs.YtfnfbomnijlhcaaDoor
open Go.Vx Go.ChangeShapes Go.WideShapes Go.ChangeAt Go.RowKit

theorem own : ownKnob Tryd.prog.godebug = none := by kernel_rfl
/-- the cells of a table -/
def cellsOfLits : List (DataW Unit) → List Value
  | .lit (.int k n) :: r => .int k n :: cellsOfLits r
  | .agg [.lit (.int k n), .lit (.int k' n')] :: r => .int k n :: .int k' n' :: cellsOfLits r
  | _ => []
def tableOf : DataW Unit → Array Value
  | .agg l => (cellsOfLits l).toArray
  | _ => #[]
def putTable (a : Array Value) : Obj → Obj
  | .cells _ t frozen => .cells a t frozen
  | o => o
/-- A world for the witness: the settled one, the two tables holding what their initialisers lay. -/
noncomputable def laidWorld (os : Os) : World :=
  { World.holding Tryd.prog os ⟨#[], #[], []⟩ with heap := (((World.holding Tryd.prog os ⟨#[], #[], []⟩).heap.modify 4 (putTable (tableOf Rows.laid_math_bits_deBruijn32tab))).modify 5 (putTable (tableOf Rows.laid_math_bits_deBruijn64tab))).modify 3 (putTable (tableOf Rows.laid_internal_strconv_uint64pow10)) }
theorem laid_met (os : Os) : laidMet Tryd.prog Rows.fnExactStaircaseTextRow.laid ((laidWorld os).forCall (fun _ _ => 0) ⟨#[], #[.slice none 0 0], []⟩).memory :=
  laidMet_of_run' 8 (by kernel_rfl) (by kernel_rfl)
theorem reads (os : Os) {H : Type} (enc : TypeId × Value → H) : ∃ places, DataW.whole enc Tryd.prog ((laidWorld os).forCall (fun _ _ => 0) ⟨#[], #[.slice none 0 0], []⟩).memory Tryd.f4.params.toList Rows.fnExactStaircaseTextSpec.vars false #[Value.slice none 0 0].toList 8 = some ([.nil], [], places) :=
  ⟨[], by kernel_rfl⟩

theorem tab_of_laid {W : World} (h : laidMet Tryd.prog Rows.fnExactStaircaseTextRow.laid W) : Lib.TabIs Tryd.prog W "internal/strconv.uint64pow10" .u64 Lib.pow10Tab := by
  obtain ⟨ps, ⟨g1, t1, cs1, f1, p1, q1, _, _, _, _, ⟨g2, t2, cs2, f2, p2, q2, _, _, _, _, ⟨g3, t3, cs3, f3, p3, q3, hg, ht, hvar, hd, _, _⟩, _⟩, _⟩, _⟩ := h
  obtain rfl := Option.some.inj ((show Tryd.prog.globalNamed "internal/strconv.uint64pow10" = some 3 by kernel_rfl).symm.trans hg)
  obtain rfl := Option.some.inj ((show (Tryd.prog.globals[3]?).map (·.type) = some 130 by kernel_rfl).symm.trans ht)
  unfold Lib.TabIs
  rw [show (Rows.laid_internal_strconv_uint64pow10 : DataW Unit) = Lib.tabData .u64 Lib.pow10Tab from rfl] at hd
  rw [hvar, ← Lib.cells_of_tab (show Tryd.prog.underlying 130 = some (.array 20 49) by kernel_rfl) (show Tryd.prog.underlying 49 = some (.int .u64) by kernel_rfl) (by kernel_rfl) (by kernel_rfl) hd]
theorem tabs_of_laid {W : World} (h : laidMet Tryd.prog Rows.fnExactStaircaseTextRow.laid W) : TabsOk W (List.range W.heap.size) TABS := by
  have ht := tab_of_laid h
  unfold Lib.TabIs World.var? at ht
  rw [show Tryd.prog.globalNamed "internal/strconv.uint64pow10" = some 3 by kernel_rfl] at ht
  simp only [Option.bind_some] at ht
  split at ht
  · rename_i cs t fz hc
    injection ht with ht
    have hlt := (Array.getElem?_eq_some_iff.1 hc).1
    refine ⟨⟨List.mem_range.2 hlt, hlt, t, fz, ?_⟩, trivial⟩
    rw [hc, ht]; rfl
  · cases ht

set_option maxRecDepth 100000 in
theorem lifted (os : Os) (started : os.Started) (H : Type) (enc : TypeId × Value → H) (F : Stop.Interp) :
    ReturnsInHanded {} Tryd.checked os 4 .any ((OpenSpec.ofChange Rows.fnExactStaircaseTextSpec).preRow enc Tryd.prog Tryd.f4 Rows.fnExactStaircaseTextRow.domain false Rows.fnExactStaircaseTextRow.laid) (((OpenSpec.ofChange Rows.fnExactStaircaseTextSpec).at F).post enc Tryd.prog Tryd.f4 false true false false) := by
  obtain ⟨places, hx⟩ := reads os enc
  refine returnsInHanded_of_row (C := Tryd.checked) (s := OpenSpec.ofChange Rows.fnExactStaircaseTextSpec) own started (by kernel_rfl) Tryd.func4
    (witness_row_at (enc := enc) (C := Tryd.checked) false (laidWorld os) #[.slice none 0 0] rfl (by kernel_rfl) (by kernel_rfl) (by kernel_rfl)
      (OpenSpec.preRow_of_cond 8 hx (by kernel_rfl) (fun k hk => by cases hk) (by kernel_rfl) (laid_met os))) ?_
  intro W base args ds gs before hval hW _ _ _ hL _ _
  exact law_post (s := s_laws_FnExactStaircaseText) (by kernel_rfl) ok_laws_FnExactStaircaseText (by kernel_rfl) (tb := 4) rfl (by kernel_rfl) rfl (fun x hx => ⟨trivial, rfl⟩) rfl
    (fun ds hds => by match ds, hds with | [_], _ => rfl) hval hW (tabs_of_laid hL)

theorem said : Rows.FnExactStaircaseTextSaid :=
  OpenClaim.holds_of_cond 4 Tryd.f4 rfl rfl rfl rfl rfl rfl rfl ⟨rfl, rfl, rfl, rfl, rfl⟩ rfl rfl rfl rfl rfl (by kernel_rfl) Tryd.func4 (by kernel_rfl)
    (of_decide_eq_true (by kernel_rfl)) (by unfold Func.isWrapper; first | (rw [if_pos (by decide +kernel)]; kernel_rfl) | (rw [if_neg (by decide +kernel)]; exact ⟨rfl, rfl⟩))
    (fun os started H enc _ F => by rw [OpenClaim.pre_eq_preRow]; exact lifted os started H enc F)

theorem plain (f : FuncId) (fn : Func) (hf : Tryd.pinned.checked.prog.funcNamed "loop.example/g01003/laws.FnExactStaircaseText" = some f) (hfn : Tryd.pinned.checked.prog.funcs[f]? = some fn) :
    false = Tryd.pinned.checked.prog.looks [] ∧ ∀ (j : Nat) t, fn.params[j]? = some t → Tryd.pinned.checked.prog.wantsStandIn t = false := by
  obtain rfl : f = 4 := Option.some.inj ((show Tryd.prog.funcNamed "loop.example/g01003/laws.FnExactStaircaseText" = some 4 by kernel_rfl).symm.trans hf) |>.symm
  obtain rfl : fn = Tryd.f4 := (Option.some.inj (Tryd.func4.symm.trans hfn)).symm
  refine ⟨by kernel_rfl, fun j t ht => ?_⟩
  rw [Tryd.params4] at ht
  obtain rfl : t = 43 := by simpa using Array.mem_of_getElem? ht
  exact (show Tryd.prog.wantsStandIn 43 = false by kernel_rfl)

theorem fnExactStaircaseText_holds : Rows.FnExactStaircaseTextCardSaid :=
  Claim7.holds_tied_plain_at .later [] _ _ _ _ said (fun _ h => by cases h) (by kernel_rfl) (fun _ h => by cases h) fnExactStaircaseText_row_tie rfl ⟨rfl, rfl⟩ (by kernel_rfl) rfl plain (by kernel_rfl)
end Go.Proofs.YtfnfbomnijlhcaaDoor
