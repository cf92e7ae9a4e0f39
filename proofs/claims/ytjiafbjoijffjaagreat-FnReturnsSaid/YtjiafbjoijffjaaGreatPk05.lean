/- Every operation of the evaluator is the model's. -/
import Derived.Test.YtjiafbjoijffjaaGreatPk04
import Derived.Laws.BytesString
import Derived.Laws.Cells
import Derived.Lib.IndexBytes
namespace Go.Vx
set_option linter.unusedSimpArgs false
set_option linter.unusedVariables false
open Go Go.RowKit

def noGh : Nat → Gh := fun _ => ⟨none, 0, 0, 0, undef⟩

def aggD : TypeDesc → Bool
  | .struct _ => true
  | .array _ _ => true
  | _ => false

structure TyOk (P : Program) (T : Nat → Option Ty) (t : Nat) (ty : Ty) : Prop where
  info : ∃ (i : TypeInfo) (z : Value), P.info? t = some i ∧ i.size = ty.size ∧ i.bytes = ty.bytes ∧ i.zero = some z ∧ denL (fun _ => false) noGh ty.zero z.cells.toList ∧ ty.zero.length = ty.size
  agg : ∃ d, P.underlying t = some d ∧ aggD d = ty.agg
  one : ty.agg = false → ty.size = 1
  offs : ty.offs ≠ [] → ∃ fs : Array Field, P.underlying t = some (.struct fs) ∧ fs.size = ty.offs.length ∧ ∀ (f o sz : Nat), ty.offs[f]? = some (o, sz) → ∃ (fd : Field) (j : TypeInfo), fs[f]? = some fd ∧ fd.offset = o ∧ P.info? fd.type = some j ∧ j.size = sz ∧ 0 < sz ∧ o + sz ≤ ty.size
  elem : ∀ e k, ty.elem = some (e, k) → P.underlying t = some (.slice e) ∧ ∃ te, T e = some te ∧ te.size = k.size
  bool : ty.kind = some .bool → P.underlying t = some .bool
  str : ty.kind = some .str → P.underlying t = some .string
  u8 : ty.kind = some (.num .u8) → P.underlying t = some (.int .u8)
  eqr : ty.kind = some .rat → ∀ (op : BinOp) (x y : Rt) (w : World) (ox oy : Operand), (op = .eql ∨ op = .neq) →
    (do eqGuard op t ox oy (valOf .rat x) (valOf .rat y); binOp op t (valOf .rat x) (valOf .rat y) : Sem Value).run P w = .ok (.bool (if op = .eql then eqRt x y else !eqRt x y)) w
  eqi : ty.kind = some .iv → ∀ (op : BinOp) (x y : Iv) (w : World) (ox oy : Operand), (op = .eql ∨ op = .neq) →
    (do eqGuard op t ox oy (valOf .iv x) (valOf .iv y); binOp op t (valOf .iv x) (valOf .iv y) : Sem Value).run P w = .ok (.bool (if op = .eql then eqIv x y else !eqIv x y)) w
  eqp : ty.kind = some .pt → ∀ (op : BinOp) (x y : Pt) (w : World) (ox oy : Operand), (op = .eql ∨ op = .neq) →
    (do eqGuard op t ox oy (valOf .pt x) (valOf .pt y); binOp op t (valOf .pt x) (valOf .pt y) : Sem Value).run P w = .ok (.bool (if op = .eql then eqPt x y else !eqPt x y)) w

structure EnvOk (P : Program) (E : Env) (X : Cx) : Prop where
  ty : ∀ t ty, E.T t = some ty → TyOk P E.T t ty
  kn : KnowOk P X E.Γ E.C

def OpOk (P : Program) (o : Oper) (a : Act) (st : St) (w : World) (γ : Nat → Gh) (v : SV) (us : List Up) : Prop :=
  (∃ v' w' γ', (execOp a.eval o).run P w = .ok (.value v') w' ∧ StepOk st w γ v us v' w' γ') ∨
  (∃ w' γ', (execOp a.eval o).run P w = .ok .skip w' ∧ StepOk st w γ v us undef w' γ') ∨
  (∃ f args, (execOp a.eval o).run P w = .ok (.enter f args) w ∧ Calls P f args w fun e w' => ∃ v' γ', e = .returned v' ∧ StepOk st w γ v us v' w' γ')

section
variable {P : Program} {E : Env} {X : Cx} {st : St} {a : Act} {w : World} {γ : Nat → Gh} {hr : Nat → Option Ob}

theorem ev_ok (R : Rel X st a w γ) (x : Operand) : denV st.ids γ (ev st.fr x) (a.eval x) := by
  cases x with
  | tmp t => exact R.fr _
  | const v =>
    simp only [ev, Act.eval]
    unfold evC
    split
    · rfl
    · rfl
    · rfl
    · rfl
    · exact trivial
  | func f => exact ⟨[], rfl, trivial⟩
  | global g => exact trivial

theorem den_plain {ids : Nat → Bool} {γ : Nat → Gh} {cs : List Sc} {vs : List Value} (h : denL (fun _ => false) noGh cs vs) : denL ids γ cs vs :=
  denL_wider ⟨(fun _ h => by cases h), (fun _ h => by cases h)⟩ h

/-- A new object in a new block. -/
theorem step_new (R : Rel X st a w γ) {d : Nat} {o : Ob} {g : Gh} {cells : Array Value} {t : Nat} (hn : st.ids d = false) (hg : g.a = some ⟨w.heap.size, 0, none⟩)
    (v : SV) (v' : Value) (hv : denV (updI st.ids [⟨d, true, some o⟩]) (upd γ d g) v v')
    (ho : o.wr = true) (hob : ObOk (updI st.ids [⟨d, true, some o⟩]) (upd γ d g) (w.alloc (.cells cells t)) d o) :
    StepOk st w γ v [⟨d, true, some o⟩] v' (w.alloc (.cells cells t)) (upd γ d g) := by
  refine ⟨hv, fun i hi => upd_ne _ _ (by rintro rfl; rw [hn] at hi; cases hi), Kept.alloc _ _ _, ?_, ?_, ?_⟩
  · intro u hu o' ho'
    simp at hu
    subst hu
    cases ho'
    exact ⟨hob, ho⟩
  · intro u hu o' b ho' hb
    simp at hu
    subst hu
    simp only [blk, upd_same, hg] at hb
    cases hb
    exact .inl (Nat.le_refl _)
  · intro u hu u2 hu2 _ _ _ _ _ _ _
    simp at hu hu2
    rw [hu, hu2]

theorem wider_new (γ : Nat → Gh) {d : Nat} {o : Option Ob} {g : Gh} {ids : Nat → Bool} (hn : ids d = false) : Wider ids (updI ids [⟨d, true, o⟩]) γ (upd γ d g) :=
  ⟨fun i hi => updI_true.2 (.inl hi), fun i hi => upd_ne _ _ (by rintro rfl; rw [hn] at hi; cases hi)⟩

theorem new_id {ids : Nat → Bool} {d : Nat} {o : Option Ob} : updI ids [⟨d, true, o⟩] d = true := updI_true.2 (.inr (by simp))

theorem new_fresh {ids : Nat → Bool} {d : Nat} {o : Option Ob} (h : okUps ids [⟨d, true, o⟩] = true) : ids d = false :=
  (okUps_spec h (by simp) _ List.mem_cons_self).1 rfl

theorem knownC_one {ids : Nat → Bool} {γ : Nat → Gh} : ∀ {cs : List Sc} {vs : List Value}, knownC cs = true → denL ids γ cs vs → ∀ v ∈ vs, v.oneCell' = true ∧ v.cells = #[v]
  | [], [], _, _, _, h => by cases h
  | s :: r, v :: t, hk, hd, u, hu => by
    have hr : knownC r = true := by cases s <;> first | exact hk | cases hk
    rcases List.mem_cons.1 hu with rfl | hu
    · have h1 := hd.1
      cases s with
      | any => cases hk
      | und => cases hk
      | clo i => cases hk
      | num k n => rw [show u = _ from h1]; exact ⟨rfl, rfl⟩
      | lit b => rw [show u = _ from h1]; exact ⟨rfl, rfl⟩
      | bool b => rw [show u = _ from h1]; exact ⟨rfl, rfl⟩
      | str s => rw [show u = _ from h1]; exact ⟨rfl, rfl⟩
      | nil => rw [show u = _ from h1]; exact ⟨rfl, rfl⟩
      | ref i o => obtain ⟨_, ad, _, rfl⟩ := h1; exact ⟨rfl, rfl⟩
      | eref i j o => obtain ⟨_, ad, _, rfl⟩ := h1; exact ⟨rfl, rfl⟩
      | vw i o l => obtain ⟨_, _, aa, c, rfl, _⟩ := h1; exact ⟨rfl, rfl⟩
      | own i => obtain ⟨_, rfl⟩ := h1; exact ⟨rfl, rfl⟩
      | fn f c => obtain ⟨vs, rfl, _⟩ := h1; exact ⟨rfl, rfl⟩
      | raw r => obtain ⟨aa, c, e⟩ := r.h; rw [show u = _ from h1, e]; exact ⟨rfl, rfl⟩
    · exact knownC_one hr hd.2 u hu
  | [], _ :: _, _, hd, _, _ => hd.elim
  | _ :: _, [], _, hd, _, _ => hd.elim

/-- The cells of a known value. -/
theorem known_cells {ids : Nat → Bool} {γ : Nat → Gh} {x : SV} {v : Value} (hk : knownS x = true) (hd : denV ids γ x v) : denL ids γ (cellsS x) v.cells.toList ∧ ∀ u ∈ v.cells.toList, u.oneCell' = true := by
  cases x with
  | sc s =>
    have := knownC_one (cs := [s]) (vs := [v]) hk ⟨hd, trivial⟩ v List.mem_cons_self
    rw [this.2]
    refine ⟨⟨hd, trivial⟩, fun u hu => ?_⟩
    simp at hu
    rw [hu]
    exact this.1
  | ag cs =>
    obtain ⟨vs, rfl, hc⟩ := hd
    exact ⟨by simpa [Value.cells, cellsS] using hc, fun u hu => (knownC_one hk hc u (by simpa [Value.cells] using hu)).1⟩
  | tp xs => cases hk

theorem run_zero {t : Nat} {i : TypeInfo} {z : Value} (hi : P.info? t = some i) (hz : i.zero = some z) : (zeroValue t).run P w = .ok z w := by
  simp [zeroValue, typeInfo, hi, hz]

theorem run_size {t : Nat} {i : TypeInfo} (hi : P.info? t = some i) : (sizeOf t).run P w = .ok i.size w := by
  simp [sizeOf, typeInfo, hi]

theorem act_alloc (hE : EnvOk P E X) (R : Rel X st a w γ) {o : Oper} {t : Nat} (ho : o.op = .alloc t) {ps : List Prop} {v : SV} {us : List Up}
    (h : act E o.dst (ev st.fr) hr o.op = some (ps, v, us)) (hok : okUps st.ids us = true) : OpOk P o a st w γ v us := by
  rw [ho] at h
  simp only [act] at h
  split at h
  · rename_i ty d hT hd
    cases h
    obtain ⟨i, z, hi, hsz, hby, hz, hden, hzl⟩ := (hE.ty t ty hT).info
    have hn := new_fresh hok
    refine .inl ⟨.pointer (some ⟨w.heap.size, 0, none⟩), w.alloc (.cells z.cells t), upd γ d ⟨some ⟨w.heap.size, 0, none⟩, 0, 0, 0, undef⟩, ?_, ?_⟩
    · simp [execOp, ho, Instr.alloc, run_zero hi hz, newVar, newRow]
    · refine step_new R hn rfl _ _ ⟨new_id, _, by rw [upd_same], by simp [Addr.add]⟩ rfl ⟨w.heap.size, z.cells.toList, by rw [upd_same], ?_, den_plain hden⟩
      simpa using heap_alloc_new w (.cells z.cells t)
  · cases h

theorem act_box (hE : EnvOk P E X) (R : Rel X st a w γ) {o : Oper} {t : Nat} {x : Operand} (ho : o.op = .box t x) {ps : List Prop} {v : SV} {us : List Up}
    (h : act E o.dst (ev st.fr) hr o.op = some (ps, v, us)) (hok : okUps st.ids us = true) : OpOk P o a st w γ v us := by
  rw [ho] at h
  simp only [act] at h
  split at h
  · rename_i ty d hT hd
    split at h
    · rename_i hk
      cases h
      simp only [Bool.and_eq_true] at hk
      obtain ⟨h1, h2⟩ := known_cells hk.1 (ev_ok R x)
      have hn := new_fresh hok
      refine .inl ⟨.pointer (some ⟨w.heap.size, 0, none⟩), w.alloc (.cells (a.eval x).cells t), upd γ d ⟨some ⟨w.heap.size, 0, none⟩, 0, 0, 0, undef⟩, ?_, ?_⟩
      · simp [execOp, ho, Instr.box, newVar, newRow]
      · refine step_new R hn rfl _ _ ⟨new_id, _, by rw [upd_same], by simp [Addr.add]⟩ rfl ⟨w.heap.size, (a.eval x).cells.toList, by rw [upd_same], ?_, denL_wider (wider_new γ hn) h1⟩
        simpa using heap_alloc_new w (.cells (a.eval x).cells t)
    · cases h
  · cases h

theorem act_pure {o : Oper} {v : SV} {v' : Value} (h : (execOp a.eval o).run P w = .ok (.value v') w) (hd : denV st.ids γ v v') : OpOk P o a st w γ v [] :=
  .inl ⟨v', w, γ, h, StepOk.pure hd⟩

theorem asB_ok {ids : Nat → Bool} {x : SV} {b : Bool} {v : Value} (h : asB x = some b) (hd : denV ids γ x v) : v = .bool b := by
  unfold asB at h
  split at h
  · cases h; exact hd
  · cases h; exact hd
  · cases h

theorem act_pick (R : Rel X st a w γ) {o : Oper} {c x y : Operand} (ho : o.op = .pick c x y) {ps : List Prop} {v : SV} {us : List Up}
    (h : act E o.dst (ev st.fr) hr o.op = some (ps, v, us)) (hps : andL ps) : OpOk P o a st w γ v us := by
  rw [ho] at h
  simp only [act] at h
  have hc := ev_ok R c
  have hx := ev_ok R x
  have hy := ev_ok R y
  have run : ∀ b, a.eval c = .bool b → (execOp a.eval o).run P w = .ok (.value (if b = true then a.eval x else a.eval y)) w := by
    intro b hb
    simp [execOp, ho, hb, asBool]
  unfold pickAct at h
  split at h
  · rename_i heq
    rw [heq] at hc
    cases h
    exact act_pure (by rw [run true hc]; rfl) hx
  · rename_i heq
    rw [heq] at hc
    cases h
    exact act_pure (by rw [run false hc]; rfl) hy
  · rename_i b heq
    rw [heq] at hc
    split at h
    · rename_i p q h1 h2
      cases h
      refine act_pure (run b hc) ?_
      cases b
      · exact asB_ok h2 hy
      · exact asB_ok h1 hx
    · rename_i p h1 h2
      cases h
      obtain ⟨hb, _⟩ := hps
      refine act_pure (run b hc) ?_
      rw [hb]
      exact asB_ok h1 hx
    · rename_i q h1 h2
      cases h
      obtain ⟨hb, _⟩ := hps
      refine act_pure (run b hc) ?_
      rw [hb]
      exact asB_ok h2 hy
    · cases h
  · cases h

theorem wrap_in {n : Int} (h : inI64 n) : IntKind.i64.wrap n = n := by
  obtain ⟨h1, h2⟩ := h
  rw [IntKind.wrap_i64]
  omega

theorem arith_ok {k : IntKind} {n : Int} {ps : List Prop} {v : SV} {us : List Up} (h : arith k n = some (ps, v, us)) (hps : andL ps) : v = .sc (.num k (k.wrap n)) ∧ us = [] := by
  unfold arith at h
  split at h
  · cases h
    rw [wrap_in hps.1]
    exact ⟨rfl, rfl⟩
  · cases h
    exact ⟨rfl, rfl⟩

theorem num_ok {op : BinOp} {k : IntKind} {p q : Int} {ps : List Prop} {v : SV} {us : List Up} (h : numAct op k p q = some (ps, v, us)) (hps : andL ps) :
    us = [] ∧ ∃ v', (binOp op 0 (.int k p) (.int k q)).run P w = .ok v' w ∧ ∀ ids γ, denV ids γ v v' := by
  unfold numAct at h
  split at h
  · obtain ⟨rfl, rfl⟩ := arith_ok h hps
    exact ⟨rfl, _, by simp [binOp, Op.intArith], fun _ _ => rfl⟩
  · obtain ⟨rfl, rfl⟩ := arith_ok h hps
    exact ⟨rfl, _, by simp [binOp, Op.intArith], fun _ _ => rfl⟩
  · obtain ⟨rfl, rfl⟩ := arith_ok h hps
    exact ⟨rfl, _, by simp [binOp, Op.intArith], fun _ _ => rfl⟩
  · split at h
    · cases h
      obtain ⟨h1, h2, _⟩ := hps
      exact ⟨rfl, .int .i64 (p.tdiv q), by simp [binOp, Op.intDiv, h1, wrap_in h2], fun _ _ => rfl⟩
    · cases h
      obtain ⟨h1, _⟩ := hps
      exact ⟨rfl, _, by simp [binOp, Op.intDiv, h1], fun _ _ => rfl⟩
  · cases h
    obtain ⟨h1, _⟩ := hps
    exact ⟨rfl, _, by simp [binOp, Op.intDiv, h1], fun _ _ => rfl⟩
  · cases h; exact ⟨rfl, _, by simp [binOp, Op.intCmp], fun _ _ => rfl⟩
  · cases h; exact ⟨rfl, _, by simp [binOp, Op.intCmp], fun _ _ => rfl⟩
  · cases h; exact ⟨rfl, _, by simp [binOp, Op.intCmp], fun _ _ => rfl⟩
  · cases h; exact ⟨rfl, _, by simp [binOp, Op.intCmp], fun _ _ => rfl⟩
  · cases h; exact ⟨rfl, _, by simp [binOp, Op.intCmp], fun _ _ => rfl⟩
  · cases h; exact ⟨rfl, _, by simp [binOp, Op.intCmp], fun _ _ => rfl⟩
  · cases h

theorem binOp_type {op : BinOp} {k : IntKind} {p q : Int} (t u : Nat) : binOp op t (.int k p) (.int k q) = binOp op u (.int k p) (.int k q) := by
  cases op <;> simp [binOp]

theorem eqAct_ok {op : BinOp} {b : Bool} {ps : List Prop} {v : SV} {us : List Up} (h : eqAct op b = some (ps, v, us)) : us = [] ∧ (op = .eql ∨ op = .neq) ∧ v = .sc (.bool (if op = .eql then b else !b)) := by
  unfold eqAct at h
  split at h
  · cases h; exact ⟨rfl, .inl rfl, rfl⟩
  · cases h; exact ⟨rfl, .inr rfl, rfl⟩
  · cases h

theorem run_guard_int {op : BinOp} {t : Nat} {ox oy : Operand} {k k' : IntKind} {p q : Int} : (eqGuard op t ox oy (.int k p) (.int k' q)).run P w = .ok () w := by
  unfold eqGuard
  cases op <;> simp

theorem run_guard_bool {op : BinOp} {t : Nat} {ox oy : Operand} {p q : Bool} : (eqGuard op t ox oy (.bool p) (.bool q)).run P w = .ok () w := by
  unfold eqGuard
  cases op <;> simp

theorem run_guard_str {op : BinOp} {t : Nat} {ox oy : Operand} {p q : ByteArray} : (eqGuard op t ox oy (.string p) (.string q)).run P w = .ok () w := by
  unfold eqGuard
  cases op <;> simp

theorem den_rat {ids : Nat → Bool} {xs : List Sc} {x : Rt} {v : Value} (h : decRat xs = some x) (hd : denV ids γ (.ag xs) v) : v = valOf .rat x := by
  obtain ⟨vs, rfl, hc⟩ := hd
  have := dec_den (k := .rat) h hc
  rw [this]; rfl
theorem den_iv {ids : Nat → Bool} {xs : List Sc} {x : Iv} {v : Value} (h : decIv xs = some x) (hd : denV ids γ (.ag xs) v) : v = valOf .iv x := by
  obtain ⟨vs, rfl, hc⟩ := hd
  have := dec_den (k := .iv) h hc
  rw [this]; rfl
theorem den_pt {ids : Nat → Bool} {xs : List Sc} {x : Pt} {v : Value} (h : decPt xs = some x) (hd : denV ids γ (.ag xs) v) : v = valOf .pt x := by
  obtain ⟨vs, rfl, hc⟩ := hd
  have := dec_den (k := .pt) h hc
  rw [this]; rfl

theorem act_bin (hE : EnvOk P E X) (R : Rel X st a w γ) {o : Oper} {op : BinOp} {t u : Nat} {x y : Operand} (ho : o.op = .binOp op t x y u) {ps : List Prop} {v : SV} {us : List Up}
    (h : act E o.dst (ev st.fr) hr o.op = some (ps, v, us)) (hps : andL ps) : OpOk P o a st w γ v us := by
  rw [ho] at h
  simp only [act] at h
  split at h
  · rename_i ty hT
    have hx := ev_ok R x
    have hy := ev_ok R y
    have hex : (execOp a.eval o) = (do let r ← (do eqGuard op t x y (a.eval x) (a.eval y); binOp op t (a.eval x) (a.eval y)); pure (.value r)) := by simp [execOp, ho]
    split at h
    · unfold wrapAct at h
      split at h
      · rename_i p q h1 h2
        cases h
        rw [h1] at hx
        rw [h2] at hy
        refine act_pure (v' := .int .i64 (IntKind.i64.wrap (p + q))) ?_ rfl
        rw [hex, show a.eval x = _ from hx, show a.eval y = _ from hy]
        rw [binOp_type t 0]
        have hrun : (binOp .add 0 (.int .i64 p) (.int .i64 q)).run P w = .ok (.int .i64 (IntKind.i64.wrap (p + q))) w := by simp [binOp, Op.intArith]
        simp only [Sem.run_bind, run_guard_int, Result.andThen_ok, hrun, Sem.run_pure]
      · cases h
    unfold binAct at h
    split at h
    · rename_i k p k' q h1 h2
      rw [h1] at hx
      rw [h2] at hy
      split at h
      · rename_i hk
        have hk := sameK_eq hk
        subst hk
        obtain ⟨rfl, v', hrun, hden⟩ := num_ok (P := P) (w := w) h hps
        refine act_pure ?_ (hden _ _)
        rw [hex, show a.eval x = _ from hx, show a.eval y = _ from hy]
        rw [binOp_type t 0]
        simp only [Sem.run_bind, run_guard_int, Result.andThen_ok, hrun, Sem.run_pure]
      · cases h
    · rename_i xs ys h1 h2
      rw [h1] at hx
      rw [h2] at hy
      split at h
      · rename_i hk
        split at h
        · rename_i p q h3 h4
          obtain ⟨rfl, hop, rfl⟩ := eqAct_ok h
          refine act_pure (v' := .bool (if op = .eql then eqRt p q else !eqRt p q)) ?_ rfl
          rw [hex, den_rat h3 hx, den_rat h4 hy, Sem.run_bind, (hE.ty t ty hT).eqr hk op p q w x y hop]
          rfl
        · cases h
      · rename_i hk
        split at h
        · rename_i p q h3 h4
          obtain ⟨rfl, hop, rfl⟩ := eqAct_ok h
          refine act_pure (v' := .bool (if op = .eql then eqIv p q else !eqIv p q)) ?_ rfl
          rw [hex, den_iv h3 hx, den_iv h4 hy, Sem.run_bind, (hE.ty t ty hT).eqi hk op p q w x y hop]
          rfl
        · cases h
      · rename_i hk
        split at h
        · rename_i p q h3 h4
          obtain ⟨rfl, hop, rfl⟩ := eqAct_ok h
          refine act_pure (v' := .bool (if op = .eql then eqPt p q else !eqPt p q)) ?_ rfl
          rw [hex, den_pt h3 hx, den_pt h4 hy, Sem.run_bind, (hE.ty t ty hT).eqp hk op p q w x y hop]
          rfl
        · cases h
      · cases h
    · rename_i p q h1 h2
      rw [h1] at hx
      rw [h2] at hy
      split at h
      · cases h
        obtain ⟨hle, _⟩ := hps
        refine act_pure (v' := .string (p ++ q)) ?_ rfl
        rw [hex, show a.eval x = _ from hx, show a.eval y = _ from hy]
        have hle' : ¬ (9223372036854775807 < ((p.size : Int) + (q.size : Int))) := by omega
        simp [run_guard_str, binOp, Op.stringOp, hle']
      · obtain ⟨rfl, hop, rfl⟩ := eqAct_ok h
        refine act_pure (v' := .bool (if op = .eql then (p.toList == q.toList) else !(p.toList == q.toList))) ?_ rfl
        rw [hex, show a.eval x = _ from hx, show a.eval y = _ from hy]
        rcases hop with rfl | rfl
        · simp only [Sem.run_bind, run_guard_str, Result.andThen_ok]
          simp [binOp, Op.stringOp]
        · simp only [Sem.run_bind, run_guard_str, Result.andThen_ok]
          simp [binOp, Op.stringOp]
    · split at h
      · rename_i p q hk h1 h2
        obtain ⟨rfl, hop, rfl⟩ := eqAct_ok h
        have hx' := asB_ok h1 hx
        have hy' := asB_ok h2 hy
        refine act_pure (v' := .bool (if op = .eql then (p == q) else !(p == q))) ?_ rfl
        rw [hex, hx', hy']
        have hb := (hE.ty t ty hT).bool hk
        rcases hop with rfl | rfl
        · simp only [Sem.run_bind, run_guard_bool, Result.andThen_ok, run_eql_bool w t p q hb]
          rfl
        · simp only [Sem.run_bind, run_guard_bool, Result.andThen_ok, run_neq_bool w t p q hb]
          simp
      · cases h
  · cases h

theorem act_neg (R : Rel X st a w γ) {o : Oper} {t : Nat} {x : Operand} (ho : o.op = .unOp .neg t x) {ps : List Prop} {v : SV} {us : List Up}
    (h : act E o.dst (ev st.fr) hr o.op = some (ps, v, us)) (hps : andL ps) : OpOk P o a st w γ v us := by
  rw [ho] at h
  simp only [act] at h
  have hx := ev_ok R x
  split at h
  · rename_i k n heq
    rw [heq] at hx
    obtain ⟨rfl, rfl⟩ := arith_ok h hps
    refine act_pure (v' := .int k (k.wrap (0 - n))) ?_ rfl
    simp [execOp, ho, show a.eval x = _ from hx, Op.unary, Op.intArith]
  · cases h

theorem act_not (R : Rel X st a w γ) {o : Oper} {t : Nat} {x : Operand} (ho : o.op = .unOp .not t x) {ps : List Prop} {v : SV} {us : List Up}
    (h : act E o.dst (ev st.fr) hr o.op = some (ps, v, us)) : OpOk P o a st w γ v us := by
  rw [ho] at h
  simp only [act] at h
  have hx := ev_ok R x
  split at h
  · rename_i b heq
    rw [heq] at hx
    cases h
    refine act_pure (v' := .bool (!b)) ?_ rfl
    simp [execOp, ho, show a.eval x = _ from hx, Op.unary]
  · rename_i b heq
    rw [heq] at hx
    cases h
    refine act_pure (v' := .bool (!b)) ?_ rfl
    simp [execOp, ho, show a.eval x = _ from hx, Op.unary]
  · cases h

theorem act_move {o : Oper} {x : Operand} (R : Rel X st a w γ) (ho : o.op = .move x ∨ o.op = .assign x) {ps : List Prop} {v : SV} {us : List Up}
    (h : act E o.dst (ev st.fr) hr o.op = some (ps, v, us)) : OpOk P o a st w γ v us := by
  rcases ho with ho | ho
  all_goals
    rw [ho] at h
    simp only [act] at h
    cases h
    exact act_pure (v' := a.eval x) (by simp [execOp, ho]) (ev_ok R x)

/-- One scalar out of a struct. -/
theorem sval_ok {ids : Nat → Bool} {γ : Nat → Gh} {ag : Bool} {cs : List Sc} {vs : List Value} (h : denL ids γ cs vs) : denV ids γ (sval ag cs) (vval ag vs) := by
  cases ag with
  | true => exact ⟨vs, rfl, h⟩
  | false =>
    match cs, vs, h with
    | [], [], _ => exact trivial
    | [s], [u], h => exact h.1
    | _ :: _ :: _, _, _ => exact trivial
    | [_], [], h => exact h.elim
    | [_], _ :: _ :: _, h => exact h.2.elim
    | [], _ :: _, h => exact h.elim

theorem act_extract (R : Rel X st a w γ) {o : Oper} {x : Operand} {i : Nat} (ho : o.op = .extract x i) {ps : List Prop} {v : SV} {us : List Up}
    (h : act E o.dst (ev st.fr) hr o.op = some (ps, v, us)) : OpOk P o a st w γ v us := by
  rw [ho] at h
  simp only [act] at h
  have hx := ev_ok R x
  split at h
  · rename_i xs heq
    rw [heq] at hx
    obtain ⟨us', hu, hd⟩ := hx
    split at h
    · rename_i ag cs hi
      cases h
      have get : ∀ {xs : List (Bool × List Sc)} {us : List Value} {i : Nat}, denT st.ids γ xs us → xs[i]? = some (ag, cs) → ∃ u vs, us[i]? = some u ∧ u = vval ag vs ∧ denL st.ids γ cs vs := by
        intro xs
        induction xs with
        | nil => intro us i _ h; simp at h
        | cons p r ih =>
          intro us i hd h
          cases us with
          | nil => exact hd.elim
          | cons u t =>
            cases i with
            | zero =>
              simp at h
              subst h
              obtain ⟨⟨vs, h1, h2⟩, _⟩ := hd
              exact ⟨u, vs, rfl, h1, h2⟩
            | succ i =>
              simp only [List.getElem?_cons_succ] at h ⊢
              exact ih hd.2 h
      obtain ⟨u, vs, h1, h2, h3⟩ := get hd hi
      refine act_pure (v' := u) ?_ (by rw [h2]; exact sval_ok h3)
      simp [execOp, ho, hu, Instr.extract, h1]
    · cases h
  · cases h

theorem act_index (hE : EnvOk P E X) (R : Rel X st a w γ) {o : Oper} {t : TypeId} {x i : Operand} (ho : o.op = .index t x i) {ps : List Prop} {v : SV} {us : List Up}
    (h : act E o.dst (ev st.fr) hr o.op = some (ps, v, us)) (hps : andL ps) : OpOk P o a st w γ v us := by
  rw [ho] at h
  simp only [act] at h
  have hx := ev_ok R x
  have hi := ev_ok R i
  split at h
  · rename_i ty hT
    unfold strIndex at h
    split at h
    · rename_i s k n h1 h2
      rw [h1] at hx
      rw [h2] at hi
      split at h
      · rename_i hk
        cases h
        obtain ⟨c0, c1, _⟩ := hps
        have hu := (hE.ty t ty hT).str hk
        refine act_pure (v' := .int .u8 (byteA s n.toNat)) ?_ rfl
        have hb : byteA s n.toNat = ((s[n.toNat]'(by omega)).toNat : Int) := by
          unfold byteA
          have h3 : s.data.toList[n.toNat]? = some (s[n.toNat]'(by omega)) := Lib.data_getElem? s n.toNat (by omega)
          simp [List.getD, h3]
        rw [hb]
        simp [execOp, ho, show a.eval x = _ from hx, show a.eval i = _ from hi, run_index_string _ _ _ _ _ hu, c0, c1]
      · cases h
    · cases h
  · cases h

theorem act_convert (hE : EnvOk P E X) (R : Rel X st a w γ) (hs : ∀ i o, hr i = some o → st.hp i = some o) {o : Oper} {s t : TypeId} {x : Operand} (ho : o.op = .convert s t x) {ps : List Prop} {v : SV} {us : List Up}
    (h : act E o.dst (ev st.fr) hr o.op = some (ps, v, us)) : OpOk P o a st w γ v us := by
  rw [ho] at h
  simp only [act] at h
  have hx := ev_ok R x
  split at h
  · rename_i z1 z2 z3 z4 z5 e k z6 tt hT hT2
    split at h
    · rename_i te hTe
      unfold convAct at h
      split at h
      · rename_i ys hk1 hk2 hl
        cases h
        obtain ⟨a', c, hv, hlc, hmx, hc⟩ := listOf_ok R hs hl hx (rb := (idsSV (ev st.fr x)).filterMap (blk γ)) (fun i hi o b _ hb => List.mem_filterMap.2 ⟨i, hi, hb⟩)
        have hu := ((hE.ty s _ hT).elem e k rfl).1
        have hue := (hE.ty e te hTe).u8 hk1
        have hut := (hE.ty t tt hT2).str hk2
        refine act_pure (v' := .string (bytesA ys)) ?_ rfl
        have run : (Conv.bytesToString (.slice a' ys.length c)).run P w = .ok (.string (bytesA ys)) w := by
          cases a' with
          | none =>
            have : ys = [] := by
              cases ys with
              | nil => rfl
              | cons y r => obtain ⟨ad, h1, _⟩ := hc (by simp); cases h1
            subst this
            rfl
          | some ad =>
            refine run_bytesToString w ad ys.length c ys ?_
            have hcell : ∀ j u, (ys.map (Value.int .u8))[j]? = some u → w.cell? (ad.add j) = some u := by
              intro j u hj
              have hlt : j < ys.length := by
                have := (List.getElem?_eq_some_iff.1 hj).1
                simpa using this
              obtain ⟨ad2, h1, _, _, h4⟩ := hc (by omega)
              cases h1
              refine h4 j u ?_
              have hg := flat_get (.num .u8) ys j 0 hlt (by decide)
              rw [show j * VK.size (.num .u8) + 0 = j by simp [VK.size]] at hg
              rw [hg]
              rw [List.getElem?_map] at hj
              simp only [valCells, VK.enc]
              rw [List.getElem?_eq_getElem hlt] at hj
              simp only [Option.map_some, Option.some.injEq] at hj
              simp [← hj, List.getD, List.getElem?_eq_getElem hlt]
            have := run_loadCells_list (P := P) (w := w) ad (ys.map (Value.int .u8)) hcell
            simpa using this
        simp [execOp, ho, show a.eval x = _ from hv, run_convert_bytes_string w s t e a' ys.length c hu hue hut, run]
      · cases h
    · cases h
  · rename_i z1 z2 z3 z4 z5 z6 tt hT hT2
    split at h
    · rename_i k n hk hxx
      cases h
      rw [hxx] at hx
      obtain ⟨d, hu, _⟩ := (hE.ty s _ hT).agg
      have hut := (hE.ty t tt hT2).u8 hk
      refine act_pure (v' := .int .u8 (IntKind.u8.wrap n)) ?_ rfl
      have run : (convert s t (.int k n)).run P w = .ok (.int .u8 (IntKind.u8.wrap n)) w := by
        unfold convert
        simp only [Sem.run_bind, run_underlying hu, run_underlying hut, Result.andThen_ok]
        cases d <;> rfl
      simp [execOp, ho, show a.eval x = _ from hx, run]
    · cases h
  · cases h

theorem act_nilCheck (R : Rel X st a w γ) {o : Oper} {x : Operand} (ho : o.op = .nilCheck x) {ps : List Prop} {v : SV} {us : List Up}
    (h : act E o.dst (ev st.fr) hr o.op = some (ps, v, us)) : OpOk P o a st w γ v us := by
  rw [ho] at h
  simp only [act] at h
  have hx := ev_ok R x
  split at h
  · rename_i id off heq
    rw [heq] at hx
    cases h
    obtain ⟨hi, ad, ha, hv⟩ := hx
    refine act_pure (v' := .pointer (some (ad.add off))) ?_ ⟨hi, ad, ha, rfl⟩
    simp [execOp, ho, hv]
  · rename_i id i off heq
    rw [heq] at hx
    cases h
    obtain ⟨hi, ad, ha, hv⟩ := hx
    refine act_pure (v' := _) ?_ ⟨hi, ad, ha, rfl⟩
    simp [execOp, ho, hv]
  · cases h

theorem act_makeFunc (R : Rel X st a w γ) {o : Oper} {f : Nat} {first caps : Array Operand} (ho : o.op = .makeFunc (.func f) first caps) {ps : List Prop} {v : SV} {us : List Up}
    (h : act E o.dst (ev st.fr) hr o.op = some (ps, v, us)) : OpOk P o a st w γ v us := by
  rw [ho] at h
  simp only [act] at h
  split at h
  · rename_i cs hf hc
    cases h
    have key : ∀ {l : List Operand} {cs : List (Nat × Nat)}, capRefs (l.map (ev st.fr)) = some cs → denCap st.ids γ cs (l.map a.eval) := by
      intro l
      induction l with
      | nil => intro cs h; cases h; trivial
      | cons x r ih =>
        intro cs h
        have hx := ev_ok R x
        simp only [List.map_cons] at h
        unfold capRefs at h
        split at h
        · rename_i e; cases e
        · rename_i i off r' e
          simp only [List.cons.injEq] at e
          obtain ⟨e1, e2⟩ := e
          rw [e1] at hx
          rw [← e2] at h
          cases hq : capRefs (r.map (ev st.fr)) with
          | none => rw [hq] at h; cases h
          | some cs' =>
            rw [hq] at h
            cases h
            obtain ⟨hi, ad, ha, hv⟩ := hx
            exact ⟨⟨hi, ad, ha, hv⟩, ih hq⟩
        · cases h
    have h1 : first = #[] := by
      cases first
      simp at hf
      subst hf
      rfl
    refine act_pure (v' := .func (.func f) #[] (caps.map a.eval)) ?_ ⟨caps.toList.map a.eval, ?_, key hc⟩
    · simp [execOp, ho, Instr.makeFunc, h1]
    · congr 1
      apply Array.ext'
      simp
  · cases h

theorem act_fieldAddr (hE : EnvOk P E X) (R : Rel X st a w γ) {o : Oper} {t f : Nat} {x : Operand} (ho : o.op = .fieldAddr t x f) {ps : List Prop} {v : SV} {us : List Up}
    (h : act E o.dst (ev st.fr) hr o.op = some (ps, v, us)) : OpOk P o a st w γ v us := by
  rw [ho] at h
  simp only [act] at h
  have hx := ev_ok R x
  split at h
  · rename_i ty hT
    have place : ∀ {off sz : Nat}, ty.offs[f]? = some (off, sz) → ∀ ad : Addr, a.eval x = .pointer (some ad) → (execOp a.eval o).run P w = .ok (.value (.pointer (some (ad.add off)))) w := by
      intro off sz hf ad hv
      have hne : ty.offs ≠ [] := by intro e; rw [e] at hf; simp at hf
      obtain ⟨fs, hu, hl, hfs⟩ := (hE.ty t ty hT).offs hne
      obtain ⟨fd, j, h1, h2, h3, h4, h5, _⟩ := hfs f off sz hf
      have hsz : j.size ≠ 0 := by omega
      simp [execOp, ho, Instr.fieldAt, run_underlying hu, h1, hv, Instr.sureAddr, fieldPlace, run_size h3, hsz, h2]
    split at h
    · rename_i off sz id off' hf heq
      rw [heq] at hx
      cases h
      obtain ⟨hi, ad, ha, hv⟩ := hx
      refine act_pure (place hf _ hv) ⟨hi, ad, ha, ?_⟩
      rw [Deep.add_add]
    · rename_i off sz id i off' hf heq
      rw [heq] at hx
      cases h
      obtain ⟨hi, ad, ha, hv⟩ := hx
      refine act_pure (place hf _ hv) ⟨hi, ad, ha, ?_⟩
      rw [Deep.add_add, Nat.add_assoc]
    · cases h
  · cases h

theorem run_isAgg {t : Nat} {d : TypeDesc} {b : Bool} (hu : P.underlying t = some d) (hd : aggD d = b) : (isAgg t).run P w = .ok b w := by
  unfold isAgg
  rw [Sem.run_bind, run_underlying hu w]
  cases d <;> simp_all [aggD]

/-- What is loaded, by the cells. -/
theorem run_loadVar_cells (hE : EnvOk P E X) {t : Nat} {ty : Ty} (hT : E.T t = some ty) (ad : Addr) (vs : List Value) (hl : vs.length = ty.size) (hc : ∀ j u, vs[j]? = some u → w.cell? (ad.add j) = some u) :
    (loadVar t ad).run P w = .ok (vval ty.agg vs) w := by
  obtain ⟨d, hu, hd⟩ := (hE.ty t ty hT).agg
  obtain ⟨i, z, hi, hsz, _⟩ := (hE.ty t ty hT).info
  unfold loadVar
  rw [Sem.run_bind, run_isAgg hu hd]
  cases hag : ty.agg with
  | true =>
    have h1 := run_loadCells_list (P := P) w ad vs hc
    rw [hl] at h1
    simp [run_size hi, hsz, h1, vval]
  | false =>
    have h1 := (hE.ty t ty hT).one hag
    match vs, hl with
    | [u], _ =>
      have h0 := hc 0 u rfl
      rw [show ad.add 0 = ad by simp [Addr.add]] at h0
      simp [vval, h0]
    | [], hl => simp at hl; omega
    | _ :: _ :: _, hl => simp at hl; omega

theorem add_block (ad : Addr) (n : Nat) : (ad.add n).block = ad.block := by unfold Addr.add; split <;> rfl

/-- The cells of a box, from one on. -/
theorem box_cells {b off : Nat} {vs : List Value} {t : Nat} {fz : Nat × Nat} {n : Nat} (hh : w.heap[b]? = some (.cells (List.toArray vs) t fz)) :
    ∀ j u, ((vs.drop off).take n)[j]? = some u → w.cell? (((⟨b, 0, none⟩ : Addr).add off).add j) = some u := by
  intro j u hu
  rw [Deep.add_add]
  have : (⟨b, 0, none⟩ : Addr).add (off + j) = ⟨b, off + j, none⟩ := by unfold Addr.add; split <;> simp_all
  rw [this, cell_of_row w b (off + j) _ t fz hh]
  rw [List.getElem?_take] at hu
  split at hu
  · rw [List.getElem?_drop] at hu
    simpa using hu
  · cases hu

/-- The cells of an element, from one on. -/
theorem elem_cells {k : VK} {xs : List k.ty} {ad : Addr} {i off n : Nat} (hc : ∀ j u, (flat k xs)[j]? = some u → w.cell? (ad.add j) = some u) (hi : i < xs.length) (ho : off + n ≤ k.size) :
    ∀ j u, (((valCells k (xs.getD i k.dflt)).drop off).take n)[j]? = some u → w.cell? ((ad.add (i * k.size + off)).add j) = some u := by
  intro j u hu
  rw [Deep.add_add]
  refine hc _ u ?_
  rw [List.getElem?_take] at hu
  split at hu
  · rename_i hj
    rw [List.getElem?_drop] at hu
    rw [Nat.add_assoc, flat_get k xs i (off + j) hi (by omega)]
    exact hu
  · cases hu

/-- The cells of what an object reads as. -/
theorem ob_list (R : Rel X st a w γ) {id : Nat} {k : VK} {xs : List k.ty} (ho : (∃ e, st.hp id = some (.row e k xs)) ∨ st.hp id = some (.view k xs) ∨ st.hp id = some (.part k xs)) :
    (γ id).sz = k.size ∧ (γ id).n = xs.length ∧ xs.length ≤ maxLen ∧ (0 < xs.length → ∃ ad, (γ id).a = some ad ∧ ∀ j u, (flat k xs)[j]? = some u → w.cell? (ad.add j) = some u) := by
  rcases ho with ⟨e, ho⟩ | ho | ho
  · obtain ⟨h1, h2, h3⟩ := R.ob _ _ ho
    rcases h3.2 with ⟨hv0, hn0⟩ | ⟨g, cap, cur, hv1, hb, hg, hnc, hcm, hcs, htake⟩
    · exact ⟨h1, h2, by omega, fun h => by omega⟩
    · refine ⟨h1, h2, by omega, fun _ => ?_⟩
      have hv2 := hv1
      injection hv1 with had
      refine ⟨_, had, ?_⟩
      rw [hv2] at h3
      exact h3.cells rfl
  · obtain ⟨h1, h2, h3, h4, h5⟩ := R.ob _ _ ho
    exact ⟨h1, h2, h3, h5⟩
  · obtain ⟨h1, h2, h3, h4, h5⟩ := R.ob _ _ ho
    exact ⟨h1, h2, h3, h5⟩

theorem act_load (hE : EnvOk P E X) (R : Rel X st a w γ) (hs : ∀ i o, hr i = some o → st.hp i = some o) {o : Oper} {t : Nat} {x : Operand} (ho : o.op = .load t x) {ps : List Prop} {v : SV} {us : List Up}
    (h : act E o.dst (ev st.fr) hr o.op = some (ps, v, us)) (hps : andL ps) : OpOk P o a st w γ v us := by
  rw [ho] at h
  simp only [act] at h
  have hx := ev_ok R x
  split at h
  · rename_i ty hT
    have go : ∀ (ad : Addr) (vs : List Value) (cs : List Sc), a.eval x = .pointer (some ad) → vs.length = ty.size → (∀ j u, vs[j]? = some u → w.cell? (ad.add j) = some u) → denL st.ids γ cs vs →
        OpOk P o a st w γ (sval ty.agg cs) [] := by
      intro ad vs cs hv hl hc hd
      refine act_pure (v' := vval ty.agg vs) ?_ (sval_ok hd)
      simp [execOp, ho, Instr.loadAt, hv, Instr.sureAddr, run_loadVar_cells hE hT ad vs hl hc]
    unfold loadAct at h
    simp only [getA_eq] at h
    split at h
    · rename_i id off heq
      rw [heq] at hx
      split at h
      · rename_i t' cs hq
        split at h
        · rename_i hle
          cases h
          have hle := Nat.le_of_ble_eq_true hle
          obtain ⟨b, vs, ha, hh, hd⟩ := R.ob _ _ (hs _ _ hq)
          obtain ⟨hi, ad, had, hv⟩ := hx
          rw [ha] at had
          cases had
          have hlen := denL_length hd
          exact go _ _ _ hv (by rw [List.length_take, List.length_drop]; omega) (box_cells hh) (denL_take _ (denL_drop _ hd))
        · cases h
      · rename_i t' cs hq
        split at h
        · rename_i hle
          cases h
          have hle := Nat.le_of_ble_eq_true hle
          obtain ⟨b, vs, ha, hh, hd⟩ := R.ob _ _ (hs _ _ hq)
          obtain ⟨hi, ad, had, hv⟩ := hx
          rw [ha] at had
          cases had
          have hlen := denL_length hd
          exact go _ _ _ hv (by rw [List.length_take, List.length_drop]; omega) (box_cells hh) (denL_take _ (denL_drop _ hd))
        · cases h
      · cases h
    · rename_i id i off heq
      rw [heq] at hx
      obtain ⟨hi, ad, had, hv⟩ := hx
      have el : ∀ {k : VK} {xs : List k.ty}, ((∃ e, st.hp id = some (.row e k xs)) ∨ st.hp id = some (.view k xs) ∨ st.hp id = some (.part k xs)) → off + ty.size ≤ k.size → i < xs.length →
          OpOk P o a st w γ (sval ty.agg (((k.enc (xs.getD i k.dflt)).drop off).take ty.size)) [] := by
        intro k xs hob hle hlt
        obtain ⟨h1, h2, h3, h4⟩ := ob_list R hob
        obtain ⟨ad', had', hc⟩ := h4 (by omega)
        rw [had] at had'
        cases had'
        rw [h1] at hv
        have hlen := valCells_length k (xs.getD i k.dflt)
        exact go _ _ _ hv (by rw [List.length_take, List.length_drop]; omega) (elem_cells hc hlt hle) (denL_take _ (denL_drop _ (denL_enc k _)))
      split at h
      · rename_i e k xs hq
        split at h
        · rename_i hle
          cases h
          exact el (.inl ⟨e, hs _ _ hq⟩) (Nat.le_of_ble_eq_true hle) hps.1
        · cases h
      · rename_i k xs hq
        split at h
        · rename_i hle
          cases h
          exact el (.inr (.inl (hs _ _ hq))) (Nat.le_of_ble_eq_true hle) hps.1
        · cases h
      · rename_i k xs hq
        split at h
        · rename_i hle
          cases h
          exact el (.inr (.inr (hs _ _ hq))) (Nat.le_of_ble_eq_true hle) hps.1
        · cases h
      · cases h
    · cases h
  · cases h

theorem updI_same {ids : Nat → Bool} {id : Nat} {b : Bool} {o : Option Ob} (h : ids id = true) : Wider ids (updI ids [⟨id, b, o⟩]) γ γ ∧ ∀ i, updI ids [⟨id, b, o⟩] i = true → ids i = true :=
  ⟨⟨fun i hi => updI_true.2 (.inl hi), fun _ _ => rfl⟩, fun i hi => by
    rcases updI_true.1 hi with h1 | h1
    · exact h1
    · simp at h1; rw [h1]; exact h⟩

/-- An object whose block has been written. -/
theorem step_set (R : Rel X st a w γ) {id b : Nat} {o o' : Ob} {cs cs' : Array Value} {t : Nat} (hq : st.hp id = some o) (hw : o.wr = true) (hw' : o'.wr = true) (hb : (γ id).a = some ⟨b, 0, none⟩) (hh : w.heap[b]? = some (.cells cs t (0, 0)))
    (hob : ObOk (updI st.ids [⟨id, false, some o'⟩]) γ (w.setRow b cs') id o') : StepOk st w γ (.sc .und) [⟨id, false, some o'⟩] undef (w.setRow b cs') γ := by
  have hbl : blk γ id = some b := sub_blk hb
  refine ⟨rfl, fun _ _ => rfl, ⟨rfl, rfl, rfl, by simp, fun k _ hk => setRow_other w b k cs' fun e => hk ⟨_, List.mem_cons_self, by rw [e]; exact hbl, o, hq, hw⟩⟩, ?_, ?_, ?_⟩
  · intro u hu p hp
    simp at hu
    subst hu
    cases hp
    exact ⟨hob, hw'⟩
  · intro u hu p c hp hc
    simp at hu
    subst hu
    exact .inr ⟨_, List.mem_cons_self, hc, o, hq, hw⟩
  · intro u hu u2 hu2 _ _ _ _ _ _ _
    simp at hu hu2
    rw [hu, hu2]

/-- .. and a value comes of it. -/
theorem step_set_v (R : Rel X st a w γ) {id b : Nat} {o o' : Ob} {cs cs' : Array Value} {t : Nat} (hq : st.hp id = some o) (hw : o.wr = true) (hw' : o'.wr = true) (hb : (γ id).a = some ⟨b, 0, none⟩) (hh : w.heap[b]? = some (.cells cs t (0, 0)))
    (hob : ObOk (updI st.ids [⟨id, false, some o'⟩]) γ (w.setRow b cs') id o') {v : SV} {v' : Value} (hv : denV (updI st.ids [⟨id, false, some o'⟩]) γ v v') : StepOk st w γ v [⟨id, false, some o'⟩] v' (w.setRow b cs') γ :=
  have h := step_set R hq hw hw' hb hh hob
  ⟨hv, h.gh, h.kept, h.obs, h.blks, h.sep⟩

theorem take_splice {α : Type} (L : List α) (M p : Nat) (ys : List α) (h : p + ys.length ≤ M) (hM : M ≤ L.length) :
    (L.take p ++ ys ++ L.drop (p + ys.length)).take M = (L.take M).take p ++ ys ++ (L.take M).drop (p + ys.length) := by
  have hA : (L.take p ++ ys).length = p + ys.length := by rw [List.length_append, List.length_take]; omega
  rw [List.take_append, List.take_of_length_le (l := L.take p ++ ys) (by omega), hA, List.take_take, Nat.min_eq_left (by omega), List.drop_take]

theorem act_store (hE : EnvOk P E X) (R : Rel X st a w γ) (hs : ∀ i o, hr i = some o → st.hp i = some o) {o : Oper} {t : Nat} {x y : Operand} (ho : o.op = .store t x y) {ps : List Prop} {v : SV} {us : List Up}
    (h : act E o.dst (ev st.fr) hr o.op = some (ps, v, us)) (hps : andL ps) (hok : okUps st.ids us = true) : OpOk P o a st w γ v us := by
  rw [ho] at h
  simp only [act] at h
  have hx := ev_ok R x
  have hy := ev_ok R y
  split at h
  · rename_i ty hT
    obtain ⟨ti, z, hti, hsz, _⟩ := (hE.ty t ty hT).info
    unfold storeAct at h
    simp only [getA_eq] at h
    split at h
    · rename_i id off hk heq
      rw [heq] at hx
      simp only [Bool.and_eq_true] at hk
      obtain ⟨hy1, hy2⟩ := known_cells hk.1 hy
      have hyl := denL_length hy1
      have hlen : (cellsS (ev st.fr y)).length = ty.size := Nat.eq_of_beq_eq_true hk.2
      split at h
      · rename_i t' cs hq
        split at h
        · rename_i hle
          cases h
          have hle := Nat.le_of_ble_eq_true hle
          obtain ⟨b, vs, ha, hh, hd⟩ := R.ob _ _ (hs _ _ hq)
          obtain ⟨hi, ad, had, hv⟩ := hx
          rw [ha] at had
          cases had
          have hdl := denL_length hd
          have hadd : (⟨b, 0, none⟩ : Addr).add off = ⟨b, off, none⟩ := by unfold Addr.add; split <;> simp_all
          have hst := run_storeCells_at (P := P) b off t' (a.eval y).cells.toList 0 (List.toArray vs) w hh (by simp at hyl ⊢; omega) hy2
          refine .inr (.inl ⟨_, γ, ?_, step_set R (hs _ _ hq) rfl rfl ha hh (cs' := (vs.take off ++ (a.eval y).cells.toList ++ vs.drop (off + ty.size)).toArray) ?_⟩)
          · simp only [execOp, ho, Instr.storeAt, hv, Instr.sureAddr, storeVar, Sem.run_bind, Sem.run_pure, Result.andThen_ok, run_size hti, hadd]
            have hne : ¬ ((a.eval y).cells.size ≠ ti.size) := by
              have : (a.eval y).cells.toList.length = (a.eval y).cells.size := by simp
              omega
            rw [if_neg hne, hst]
            simp only [Result.andThen_ok]
            congr 3
            simp at hyl
            simp [← hyl, hlen]
          · refine ⟨b, _, ha, setRow_heap w b _ _ t' _ hh, ?_⟩
            exact denL_wider (updI_same hi).1 (denL_append (denL_append (denL_take _ hd) hy1) (denL_drop _ hd))
        · cases h
      · cases h
    · rename_i id i off hk heq
      rw [heq] at hx
      simp only [Bool.and_eq_true] at hk
      obtain ⟨hy1, hy2⟩ := known_cells hk.1 hy
      have hyl := denL_length hy1
      have hlen : (cellsS (ev st.fr y)).length = ty.size := Nat.eq_of_beq_eq_true hk.2
      split at h
      · rename_i e k xs hq
        split at h
        · rename_i x' hle hdec
          cases h
          have hlt : i < xs.length := hps.1
          have hle := Nat.le_of_ble_eq_true hle
          obtain ⟨hsz', hn', hown⟩ := R.ob _ _ (hs _ _ hq)
          obtain ⟨hi, ad, had, hv⟩ := hx
          rcases hown.2 with ⟨hv0, hn0⟩ | ⟨g, cap, cur, hv1, hb, hg, hnc, hcm, hcs, htake⟩
          · omega
          · have hv2 := hv1
            injection hv1 with ha hna hca
            rw [ha] at had
            cases had
            rw [hsz'] at hv
            have hel := valCells_length k (xs.getD i k.dflt)
            have hpos := size_pos k
            have hfl := flat_length k xs
            have hin : i * k.size + k.size ≤ xs.length * k.size := by
              have := Nat.mul_le_mul_right k.size (Nat.succ_le_of_lt hlt)
              rw [Nat.succ_mul] at this
              exact this
            have hcur : xs.length * k.size ≤ cur.size := by rw [hcs]; exact Nat.mul_le_mul_right _ hnc
            have hadd : (⟨g, 0, none⟩ : Addr).add (i * k.size + off) = ⟨g, i * k.size + off, none⟩ := by unfold Addr.add; split <;> simp_all
            have hyl2 : (a.eval y).cells.toList.length = ty.size := by omega
            have hst := run_storeCells_at (P := P) g (i * k.size + off) e (a.eval y).cells.toList 0 cur w hg (by omega) hy2
            -- the element's cells, turned
            have hden : denL st.ids γ ((k.enc (xs.getD i k.dflt)).take off ++ cellsS (ev st.fr y) ++ (k.enc (xs.getD i k.dflt)).drop (off + ty.size)) ((valCells k (xs.getD i k.dflt)).take off ++ (a.eval y).cells.toList ++ (valCells k (xs.getD i k.dflt)).drop (off + ty.size)) :=
              denL_append (denL_append (denL_take _ (denL_enc k _)) hy1) (denL_drop _ (denL_enc k _))
            have hnew := dec_den hdec hden
            have hflat : flat k (xs.set i x') = (flat k xs).take (i * k.size + off) ++ (a.eval y).cells.toList ++ (flat k xs).drop (i * k.size + off + ty.size) := by
              apply List.ext_getElem?
              intro j
              have hxl : (xs.set i x').length = xs.length := List.length_set
              by_cases hj : j < xs.length * k.size
              · have hq1 : j / k.size < xs.length := (Nat.div_lt_iff_lt_mul hpos).2 hj
                have hq2 : j % k.size < k.size := Nat.mod_lt _ hpos
                have hj2 : j = j / k.size * k.size + j % k.size := by rw [Nat.mul_comm]; exact (Nat.div_add_mod j k.size).symm
                have hl := flat_get k (xs.set i x') (j / k.size) (j % k.size) (by omega) hq2
                rw [← hj2] at hl
                have hl0 := flat_get k xs (j / k.size) (j % k.size) hq1 hq2
                rw [← hj2] at hl0
                rw [hl]
                by_cases hji : j / k.size = i
                · have hjr : j = i * k.size + j % k.size := by rw [← hji]; exact hj2
                  have hget : (xs.set i x').getD (j / k.size) k.dflt = x' := by rw [hji]; simp [List.getD, List.getElem?_set, hlt]
                  rw [hget, ← hnew]
                  rw [hji] at hl0
                  by_cases c1 : j % k.size < off
                  · rw [List.append_assoc, List.getElem?_append_left (by rw [List.length_take]; omega), List.getElem?_take, if_pos c1]
                    rw [List.append_assoc, List.getElem?_append_left (by rw [List.length_take]; omega), List.getElem?_take, if_pos (by omega), hl0]
                  · by_cases c2 : j % k.size < off + ty.size
                    · rw [List.append_assoc, List.getElem?_append_right (by rw [List.length_take]; omega), List.getElem?_append_left (by rw [List.length_take]; omega)]
                      rw [List.append_assoc, List.getElem?_append_right (by rw [List.length_take]; omega), List.getElem?_append_left (by rw [List.length_take]; omega)]
                      congr 1
                      rw [List.length_take, List.length_take]
                      omega
                    · rw [List.getElem?_append_right (by rw [List.length_append, List.length_take]; omega), List.getElem?_drop]
                      rw [List.getElem?_append_right (by rw [List.length_append, List.length_take]; omega), List.getElem?_drop]
                      rw [List.length_append, List.length_take, List.length_append, List.length_take]
                      rw [show off + ty.size + (j % k.size - (min off (valCells k (xs.getD i k.dflt)).length + (a.eval y).cells.toList.length)) = j % k.size by omega]
                      rw [show i * k.size + off + ty.size + (j - (min (i * k.size + off) (flat k xs).length + (a.eval y).cells.toList.length)) = j by omega]
                      exact hl0.symm
                · have hget : (xs.set i x').getD (j / k.size) k.dflt = xs.getD (j / k.size) k.dflt := by simp [List.getD, List.getElem?_set, Ne.symm hji]
                  rw [hget, ← hl0]
                  rcases Nat.lt_or_gt_of_ne hji with c | c
                  · have hm : (j / k.size + 1) * k.size ≤ i * k.size := Nat.mul_le_mul_right _ c
                    rw [Nat.add_mul] at hm
                    rw [List.append_assoc, List.getElem?_append_left (by rw [List.length_take]; omega), List.getElem?_take, if_pos (by omega)]
                  · have hm : (i + 1) * k.size ≤ j / k.size * k.size := Nat.mul_le_mul_right _ c
                    rw [Nat.add_mul] at hm
                    rw [List.getElem?_append_right (by rw [List.length_append, List.length_take]; omega), List.getElem?_drop]
                    rw [List.length_append, List.length_take]
                    congr 1
                    omega
              · rw [List.getElem?_eq_none (by rw [flat_length, hxl]; omega), List.getElem?_eq_none]
                rw [List.length_append, List.length_append, List.length_take, List.length_drop]
                omega
            refine .inr (.inl ⟨_, γ, ?_, step_set R (hs _ _ hq) rfl rfl ha hg (cs' := (cur.toList.take (i * k.size + off) ++ (a.eval y).cells.toList ++ cur.toList.drop (i * k.size + off + ty.size)).toArray) ?_⟩)
            · simp only [execOp, ho, Instr.storeAt, hv, Instr.sureAddr, storeVar, Sem.run_bind, Sem.run_pure, Result.andThen_ok, run_size hti, hadd]
              have hne : ¬ ((a.eval y).cells.size ≠ ti.size) := by
                have : (a.eval y).cells.toList.length = (a.eval y).cells.size := by simp
                omega
              rw [if_neg hne, hst]
              simp only [Result.andThen_ok, hyl2, Nat.add_zero]
            · refine ⟨hsz', by rw [List.length_set]; exact hn', ?_⟩
              rw [hv2, List.length_set]
              refine ⟨by rw [flat_length, List.length_set], .inr ⟨g, cap, _, rfl, hb, setRow_heap w g cur _ e _ hg, hnc, hcm, ?_, ?_⟩⟩
              · simp only [List.size_toArray, List.length_append, List.length_take, List.length_drop, Array.length_toList]
                simp at hyl2
                omega
              · rw [hflat, ← htake]
                have := take_splice cur.toList (xs.length * k.size) (i * k.size + off) (a.eval y).cells.toList (by omega) (by simpa using hcur)
                rw [hyl2] at this
                exact this
        · cases h
      · cases h
    · cases h
  · cases h

end
end Go.Vx
