/- For all arguments the law FnTree returns true; there are no further conditions. -/
import Derived.Test.YtfnfbomnijlhcaaDoorVxRow
import Derived.Test.YtfnfbomnijlhcaaDoorVxTr
import Derived.Test.YtfnfbomnijlhcaaDoorVxFw
import Derived.Test.YtfnfbomnijlhcaaDoorVxPt
import Derived.Test.YtfnfbomnijlhcaaDoorVxQq
import Derived.Test.YtfnfbomnijlhcaaDoorVxWt
import Derived.Test.YtfnfbomnijlhcaaDoorVxWu
import Derived.Test.YtfnfbomnijlhcaaDoorVxJn
import Derived.Test.YtfnfbomnijlhcaaDoorCards
import Derived.Test.YtfnfbomnijlhcaaDoorTie
import Derived.ProofKit
import Derived.OpenShut
import Derived.Deep.DeepHandedRow
import Derived.Lib.LaidTab
namespace Go.Vx
open Go Go.Proofs
set_option maxRecDepth 100000
set_option linter.unusedSimpArgs false
set_option linter.unusedVariables false

noncomputable def s_laws_FnTree : Sig := ⟨3, [.val .raw, .val .raw], [.val .bool], fun ((_ : Raw), (_ : Raw), _) => ⟨[], (true, ()), ()⟩⟩

theorem str_self (a : ByteArray) : (a.toList == a.toList) = true := by simp
theorem rt_eta3 (x : Rt) : (⟨x.num, x.den⟩ : Rt) = x := rfl

set_option maxHeartbeats 40000000 in
theorem ok_laws_FnTree : GSpec Tryd.prog s_laws_FnTree := by
  refine fn_knownJ (some 44) tab_ok fol (((((((((((((((((Known.nil.cons ok_spec_DrawPathTo (by kernel_rfl)).cons ok_impl_PathTo (by kernel_rfl)).cons ok_spec_PathTo (by kernel_rfl)).cons ok_spec_DrawFollowPath (by kernel_rfl)).cons ok_impl_FollowPath (by kernel_rfl)).cons ok_spec_FollowPath (by kernel_rfl)).cons ok_spec_DrawConvergentsOf (by kernel_rfl)).cons ok_impl_ContinuedFraction (by kernel_rfl)).cons ok_spec_ContinuedFraction (by kernel_rfl)).cons ok_impl_ConvergentsOf (by kernel_rfl)).cons ok_spec_ConvergentsOf (by kernel_rfl)).cons ok_spec_DrawFromContinued (by kernel_rfl)).cons ok_impl_FromContinued (by kernel_rfl)).cons ok_spec_FromContinued (by kernel_rfl)).cons ok_laws_qInts (by kernel_rfl)).cons ok_laws_qRats (by kernel_rfl)).cons ok_laws_qAbs (by kernel_rfl)) (by decide) Tryd.func3 ?_
  rintro ⟨(r : Raw), (s : Raw), ⟨⟩⟩ hl _
  have l1 : r.bs.length ≤ maxLen := r.hl
  have l2 : s.bs.length ≤ maxLen := s.hl
  have l3 : maxLen = 9223372036854775807 := rfl
  have hcv := fun h => cv_cf (y := dcvV s) h
  refine VJ.upto 16 ?_
  repeat' (first | with_reducible apply andAll_cons | with_reducible apply andAll_nil | (with_reducible apply Cf.mk; kernel_rfl) | apply And.intro | intro _ | exact True.intro | apply Lf.mk)
  all_goals first | with_reducible exact Eq.refl _ | exact ⟨100000, rfl⟩ | exact ⟨100001, rfl⟩ | skip
  refine VJ.cut ⟨[], [5, 11, 15, 25, 200790, 200890, 200930], []⟩ ?_ ?_
  · repeat' (first | with_reducible apply andAll_cons | with_reducible apply andAll_nil | (with_reducible apply Cf.mk; kernel_rfl) | apply And.intro | intro _ | exact True.intro | apply Lf.mk)
    all_goals first
      | with_reducible exact Eq.refl _
      | exact tf (tr10 (y := dcvV s) (by assumption)) (by assumption)
      | (show _ = true
         exfalso
         simp only [rt_eta3, eqRt_self3, str_self, beq_self_eq_true, bne_self_eq_false, decide_true, Bool.not_true, Bool.not_false, Bool.false_eq_true, Bool.true_eq_false, reduceCtorEq] at *
         done)
      | (show _ = true
         exfalso
         simp only [rt_eta3, eqRt_self3, str_self, beq_self_eq_true, bne_self_eq_false, decide_true, Bool.not_true, Bool.not_false, Bool.false_eq_true, Bool.true_eq_false, reduceCtorEq] at *
         simp_all
         done)
      | skip
  refine VJ.cut ⟨[], [11, 15, 25, 200790, 200890, 200930], []⟩ ?_ ?_
  · repeat' (first | with_reducible apply andAll_cons | with_reducible apply andAll_nil | (with_reducible apply Cf.mk; kernel_rfl) | apply And.intro | intro _ | exact True.intro | apply Lf.mk)
    all_goals first
      | with_reducible exact Eq.refl _ | exact ⟨100000, rfl⟩ | exact ⟨100001, rfl⟩
      | exact tf (tr1 (x := dptV r) (by assumption)) (by assumption) | exact tf (tr2 (x := dptV r) (by assumption)) (by assumption) | exact tf (tr3 (x := dptV r) (by assumption)) (by assumption)
      | skip
  refine VJ.cut ⟨[], [11, 15, 25, 200790, 200890, 200930], []⟩ ?_ ?_
  · repeat' (first | with_reducible apply andAll_cons | with_reducible apply andAll_nil | (with_reducible apply Cf.mk; kernel_rfl) | apply And.intro | intro _ | exact True.intro | apply Lf.mk)
    all_goals first
      | with_reducible exact Eq.refl _ | exact ⟨100000, rfl⟩ | exact ⟨100001, rfl⟩
      | exact tf (tr4 (s := dfpV s) (by assumption)) (by assumption) | exact tf (tr5 (s := dfpV s) (by assumption)) (by assumption)
      | skip
  refine VJ.cut ⟨[], [15, 200790, 200890], []⟩ ?_ ?_
  · repeat' (first | with_reducible apply andAll_cons | with_reducible apply andAll_nil | (with_reducible apply Cf.mk; kernel_rfl) | apply And.intro | intro _ | exact True.intro | apply Lf.mk)
    all_goals first
      | with_reducible exact Eq.refl _ | exact ⟨100000, rfl⟩ | exact ⟨100001, rfl⟩
      | exact tf (tr6 (l := dfcV s) (by assumption)) (by assumption) | exact tf (tr7 (l := dfcV s) (by assumption)) (by assumption)
      | skip
  refine VJ.cut ⟨[], [200790], []⟩ ?_ ?_
  · repeat' (first | with_reducible apply andAll_cons | with_reducible apply andAll_nil | (with_reducible apply Cf.mk; kernel_rfl) | apply And.intro | intro _ | exact True.intro | apply Lf.mk)
    all_goals (try simp only [rt_eta3] at *)
    all_goals (try (have hk := cv_k (y := dcvV s) (by assumption)))
    all_goals (try (have hlen := hk.pos))
    all_goals (try (have hlen2 := cv_len (dcvV s)))
    all_goals first
      | with_reducible exact Eq.refl _
      | exact tf (tr8 (y := dcvV s) (by assumption)) (by assumption) | exact tf (tr11 (y := dcvV s) (by assumption)) (by assumption)
      | omega
      | skip
    refine ⟨Nat, fun i => ⟨[(35, .sc (.num .i64 ((i : Int) + 1)))], [15, 200790, 200890], []⟩, fun i => i + 1 ≤ (cvRes (dcvV s)).1.length, fun i => (cvRes (dcvV s)).1.length - i, ?_, ?_⟩
    · apply start_go 0
      · repeat' (first | apply And.intro | exact True.intro | exact Lf.mk (by with_reducible rfl) | apply Lf.mk)
        all_goals rfl
      · exact hlen
    · intro i g1
      have hlt1 : ∀ h : decide ((i : Int) + 1 < ((cvRes (dcvV s)).1.length : Int)) = true, i + 1 < (cvRes (dcvV s)).1.length := fun h => by have := of_decide_eq_true h; omega
      have e1 : ((i : Int) + 1 - 1).toNat = i := by omega
      have e2 : ((i : Int) + 1).toNat = i + 1 := by omega
      repeat' (first | with_reducible apply andAll_cons | with_reducible apply andAll_nil | (with_reducible apply Cf.mk; kernel_rfl) | apply And.intro | intro _ | exact True.intro | apply Lf.mk)
      all_goals (try (have hlt := hlt1 (by assumption)))
      all_goals (try (have v1 := (hk.val i (by omega)).2))
      all_goals (try (have v2 := (hk.val (i + 1) hlt).2))
      all_goals (try (have b1 := ratmul v1 v2))
      all_goals (try (have b2 := ratmul v2 v1))
      all_goals (try simp only [e1, e2, rt_eta3] at *)
      all_goals first
        | omega
        | exact tf (tr12 (y := dcvV s) (by assumption) hlt i (i + 1) rfl rfl) (by assumption)
        | (apply round_go (i + 1)
           · repeat' (first | apply And.intro | exact True.intro | exact Lf.mk (by with_reducible rfl) | apply Lf.mk)
             all_goals (rw [Int.natCast_add]; rfl)
           · omega
           · omega)
        | skip
      all_goals trace_state
  refine VJ.of ?_
  refine ⟨Nat, fun i => ⟨[(252, .sc (.num .i64 i))], [200790], []⟩, fun i => i ≤ (cfRes (dcvV s)).1.length, fun i => (cfRes (dcvV s)).1.length - i, ?_, ?_⟩
  · apply start_go 0
    · repeat' (first | apply And.intro | exact True.intro | exact Lf.mk (by with_reducible rfl) | apply Lf.mk)
      all_goals rfl
    · exact Nat.zero_le _
  · intro i g1
    have hl3 := cfRes_length (dcvV s)
    repeat' (first | with_reducible apply andAll_cons | with_reducible apply andAll_nil | (with_reducible apply Cf.mk; kernel_rfl) | apply And.intro | intro _ | exact True.intro | apply Lf.mk)
    all_goals (try simp only [rt_eta3, Int.toNat_natCast] at *)
    all_goals first
      | omega
      | (apply round_go (i + 1)
         · repeat' (first | apply And.intro | exact True.intro | exact Lf.mk (by with_reducible rfl) | apply Lf.mk)
           all_goals (rw [Int.natCast_add]; rfl)
         · have : i < (cfRes (dcvV s)).1.length := by simp only [decide_eq_true_eq] at *; omega
           omega
         · have : i < (cfRes (dcvV s)).1.length := by simp only [decide_eq_true_eq] at *; omega
           omega)
      | (simp only [decide_eq_true_eq] at *; omega)
      | (show _ = true
         exfalso
         simp only [decide_eq_true_eq, beq_iff_eq] at *
         have h := cf_num (y := dcvV s) (i := i) (by omega) (by omega)
         have h1 : ¬ getA NI.dflt (cfRes (dcvV s)).1 i < 1 := Int.not_lt.2 h.1
         first | contradiction | (have h2 : ¬ getA NI.dflt (cfRes (dcvV s)).1 i < 2 := Int.not_lt.2 (h.2 (by omega)); contradiction))
      | rfl
      | trace_state
end Go.Vx
namespace Go.Proofs.YtfnfbomnijlhcaaDoor
open Go.Vx Go.ChangeShapes Go.WideShapes Go.ChangeAt Go.RowKit

theorem own : ownKnob Tryd.prog.godebug = none := by kernel_rfl
/-- the cells of a table -/
def cellsOfLits : List (DataW Unit) → List Value
  | .lit (.int k n) :: r => .int k n :: cellsOfLits r
  | .agg [.lit (.int k n), .lit (.int k' n')] :: r => .int k n :: .int k' n' :: cellsOfLits r
  | _ => []
def tableOf : DataW Unit → Array Value
  | .agg l => (cellsOfLits l).toArray
  | _ => #[]
def putTable (a : Array Value) : Obj → Obj
  | .cells _ t frozen => .cells a t frozen
  | o => o
/-- A world for the witness: the settled one, the two tables holding what their initialisers lay. -/
noncomputable def laidWorld (os : Os) : World :=
  { World.holding Tryd.prog os ⟨#[], #[], []⟩ with heap := ((World.holding Tryd.prog os ⟨#[], #[], []⟩).heap.modify 0 (putTable (tableOf Rows.laid_unicode_utf8_first))).modify 1 (putTable (tableOf Rows.laid_unicode_utf8_acceptRanges)) }
theorem laid_met (os : Os) : laidMet Tryd.prog Rows.fnTreeRow.laid ((laidWorld os).forCall (fun _ _ => 0) ⟨#[], #[.slice none 0 0, .slice none 0 0], []⟩).memory :=
  laidMet_of_run' 8 (by kernel_rfl) (by kernel_rfl)
theorem reads (os : Os) {H : Type} (enc : TypeId × Value → H) : ∃ places, DataW.whole enc Tryd.prog ((laidWorld os).forCall (fun _ _ => 0) ⟨#[], #[.slice none 0 0, .slice none 0 0], []⟩).memory Tryd.f3.params.toList Rows.fnTreeSpec.vars false #[Value.slice none 0 0, Value.slice none 0 0].toList 8 = some ([.nil, .nil], [], places) :=
  ⟨[], by kernel_rfl⟩

set_option maxRecDepth 100000 in
theorem lifted (os : Os) (started : os.Started) (H : Type) (enc : TypeId × Value → H) (F : Stop.Interp) :
    ReturnsInHanded {} Tryd.checked os 3 .any ((OpenSpec.ofChange Rows.fnTreeSpec).preRow enc Tryd.prog Tryd.f3 Rows.fnTreeRow.domain false Rows.fnTreeRow.laid) (((OpenSpec.ofChange Rows.fnTreeSpec).at F).post enc Tryd.prog Tryd.f3 false true false false) := by
  obtain ⟨places, hx⟩ := reads os enc
  refine returnsInHanded_of_row (C := Tryd.checked) (s := OpenSpec.ofChange Rows.fnTreeSpec) own started (by kernel_rfl) Tryd.func3
    (witness_row_at (enc := enc) (C := Tryd.checked) false (laidWorld os) #[.slice none 0 0, .slice none 0 0] rfl (by kernel_rfl) (by kernel_rfl) (by kernel_rfl)
      (OpenSpec.preRow_of_cond 8 hx (by kernel_rfl) (fun k hk => by cases hk) (by kernel_rfl) (laid_met os))) ?_
  intro W base args ds gs before hval hW _ _ _ hL _ _
  exact law_post (s := s_laws_FnTree) (by kernel_rfl) ok_laws_FnTree (by kernel_rfl) (tb := 4) rfl (by kernel_rfl) rfl (fun x hx => ⟨trivial, rfl⟩) rfl
    (fun ds hds => by match ds, hds with | [_, _], _ => rfl) hval hW

theorem said : Rows.FnTreeSaid :=
  OpenClaim.holds_of_cond 3 Tryd.f3 rfl rfl rfl rfl rfl rfl rfl ⟨rfl, rfl, rfl, rfl, rfl⟩ rfl rfl rfl rfl rfl (by kernel_rfl) Tryd.func3 (by kernel_rfl)
    (of_decide_eq_true (by kernel_rfl)) (by unfold Func.isWrapper; first | (rw [if_pos (by decide +kernel)]; kernel_rfl) | (rw [if_neg (by decide +kernel)]; exact ⟨rfl, rfl⟩))
    (fun os started H enc _ F => by rw [OpenClaim.pre_eq_preRow]; exact lifted os started H enc F)

theorem plain (f : FuncId) (fn : Func) (hf : Tryd.pinned.checked.prog.funcNamed "loop.example/g01003/laws.FnTree" = some f) (hfn : Tryd.pinned.checked.prog.funcs[f]? = some fn) :
    false = Tryd.pinned.checked.prog.looks [] ∧ ∀ (j : Nat) t, fn.params[j]? = some t → Tryd.pinned.checked.prog.wantsStandIn t = false := by
  obtain rfl : f = 3 := Option.some.inj ((show Tryd.prog.funcNamed "loop.example/g01003/laws.FnTree" = some 3 by kernel_rfl).symm.trans hf) |>.symm
  obtain rfl : fn = Tryd.f3 := (Option.some.inj (Tryd.func3.symm.trans hfn)).symm
  refine ⟨by kernel_rfl, fun j t ht => ?_⟩
  rw [Tryd.params3] at ht
  obtain rfl : t = 22 := by simpa using Array.mem_of_getElem? ht
  exact (show Tryd.prog.wantsStandIn 22 = false by kernel_rfl)

theorem fnTree_holds : Rows.FnTreeCardSaid :=
  Claim7.holds_tied_plain_at .later [] _ _ _ _ said (fun _ h => by cases h) (by kernel_rfl) (fun _ h => by cases h) fnTree_row_tie rfl ⟨rfl, rfl⟩ (by kernel_rfl) rfl plain (by kernel_rfl)
end Go.Proofs.YtfnfbomnijlhcaaDoor
