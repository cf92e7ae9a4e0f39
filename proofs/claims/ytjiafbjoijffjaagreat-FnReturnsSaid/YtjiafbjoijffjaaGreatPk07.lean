/- One walk in the order of the text serves every order. -/
import Derived.Test.YtjiafbjoijffjaaGreatPk06
import Derived.Orders
namespace Go.Vx
set_option linter.unusedSimpArgs false
set_option linter.unusedVariables false
open Go Go.RowKit

theorem force_sc (s : Sc) (K : Sc → Prop) : s.force K = K s := by cases s <;> first | rfl | (rename_i b; cases b <;> rfl)
theorem force_l : ∀ (l : List Sc) (K : List Sc → Prop), forceL l K = K l
  | [], _ => rfl
  | s :: r, K => by rw [forceL_cons]; simp only [force_sc, force_l r]
theorem force_t : ∀ (l : List (Bool × List Sc)) (K : List (Bool × List Sc) → Prop), forceT l K = K l
  | [], _ => rfl
  | (true, c) :: r, K => by rw [forceT_true]; simp only [force_l, force_t r]
  | (false, c) :: r, K => by rw [forceT_false]; simp only [force_l, force_t r]
theorem force_v (v : SV) (K : SV → Prop) : v.force K = K v := by cases v <;> simp only [SV.force, force_sc, force_l, force_t]
theorem force_u : ∀ (l : List Up) (K : List Up → Prop), forceU l K = K l
  | [], _ => rfl
  | ⟨i, b, none⟩ :: r, K => by rw [forceU_none]; simp only [force_u r]
  | ⟨i, b, some (.box t cs)⟩ :: r, K => by rw [forceU_box]; simp only [force_l, force_u r]
  | ⟨i, b, some (.rbox t cs)⟩ :: r, K => by rw [forceU_rbox]; simp only [force_l, force_u r]
  | ⟨i, b, some (.row e k xs)⟩ :: r, K => by rw [forceU_row]; simp only [force_u r]
  | ⟨i, b, some (.view k xs)⟩ :: r, K => by rw [forceU_view]; simp only [force_u r]
  | ⟨i, b, some (.part k xs)⟩ :: r, K => by rw [forceU_part]; simp only [force_u r]

theorem andAll_spec : ∀ {ps : List Prop} {q : Prop}, andAll ps q → andL ps ∧ q
  | [], _, h => ⟨trivial, h⟩
  | _ :: _, _, h => ⟨⟨h.1.out, (andAll_spec h.2).1⟩, (andAll_spec h.2).2⟩

/-- What an operation yields: a condition, a value, what becomes of objects. -/
abbrev Out := Option (Prop × SV × List Up)

def rawOut (E : Env) (hr : Nat → Option Ob) (ok : List Up → Bool) (dst : Option Nat) (op : Op) (st : St) : Out :=
  match dstOk E.n dst, act E dst (ev st.fr) hr op with
  | true, some (ps, v, us) => if (okUps st.ids us && distB (us.map (·.id)) && ok us) = true then some (andL ps, v, us) else none
  | _, _ => none

def outK (dst : Option Nat) (r : Out) (K : St → Prop) (st : St) : Prop := ∃ p v us, r = some (p, v, us) ∧ p ∧ K (st.put dst v us)

theorem vcOp_out {E : Env} {dst : Option Nat} {op : Op} {K : St → Prop} {st : St} (h : vcOp E dst op K st) : outK dst (rawOut E st.hp (fun _ => true) dst op st) K st := by
  unfold vcOp at h
  split at h
  · rename_i ps v us h1 h2
    split at h
    · rename_i h3
      obtain ⟨h4, h5⟩ := andAll_spec h
      rw [force_v, force_u, putK_eq] at h5
      exact ⟨andL ps, v, us, by simp only [rawOut, h1, h2, h3, Bool.and_true, if_true], h4, h5⟩
    · exact h.elim
  · exact h.elim

theorem vcOpF_out {E : Env} {fp : Fp} {dst : Option Nat} {op : Op} {K : St → Prop} {st : St} (h : vcOpF E fp dst op K st) :
    outK dst (rawOut E (restrict st.hp (fp.r ++ fp.w)) (fun us => subB (us.map (·.id)) fp.w) dst op st) K st := by
  unfold vcOpF at h
  split at h
  · rename_i ps v us h1 h2
    split at h
    · rename_i h3 h6
      obtain ⟨h4, h5⟩ := andAll_spec h
      rw [force_v, force_u, putK_eq] at h5
      exact ⟨andL ps, v, us, by simp only [rawOut, h1, h2, h3, h6, Bool.and_true, if_true], h4, h5⟩
    · exact h.elim
  · exact h.elim

/-- Is the operation carried out? -/
def gOn (all : List Oper) (guard : Option (Nat × Bool)) (st : St) : Option Bool :=
  match guard with
  | none => some true
  | some (j, want) => match gslot all j with
    | some g => match st.fr g with
      | .sc (.lit b) => some (b == want)
      | .sc .und => some false
      | .sc (.bool b) => some (b == want)
      | _ => none
    | none => none

def gOut (n : Nat) (all : List Oper) (guard : Option (Nat × Bool)) (dst : Option Nat) (run : St → Out) (st : St) : Out :=
  match gOn all guard st with
  | some true => run st
  | some false => if dstOk n dst = true then some (True, .sc .und, []) else none
  | none => none

theorem skip_out {n : Nat} {dst : Option Nat} {K : St → Prop} {st : St} (h : skipK n dst K st) : outK dst (if dstOk n dst = true then some (True, .sc .und, []) else none) K st := by
  unfold skipK at h
  split at h
  · rename_i hd
    rw [putK_eq] at h
    exact ⟨True, .sc .und, [], by rw [if_pos hd], trivial, h⟩
  · exact h.elim

theorem vcG_out {n : Nat} {all : List Oper} {guard : Option (Nat × Bool)} {dst : Option Nat} {run : (St → Prop) → St → Prop} {out : St → Out} {K : St → Prop} {st : St}
    (hrun : run K st → outK dst (out st) K st) (h : vcG n all guard dst run K st) : outK dst (gOut n all guard dst out st) K st := by
  unfold vcG at h
  unfold gOut gOn
  split at h
  · exact hrun h
  · rename_i j want
    split at h
    · rename_i g hg
      simp only [hg]
      split at h
      · rename_i b hb
        simp only [hb]
        cases b <;> cases want <;> first | exact hrun h | exact skip_out h
      · rename_i hb
        simp only [hb]
        exact skip_out h
      · rename_i b hb
        simp only [hb]
        cases b <;> cases want
        · exact hrun (h.1 rfl)
        · exact skip_out (h.2 rfl)
        · exact skip_out (h.2 rfl)
        · exact hrun (h.1 rfl)
      · exact h.elim
    · exact h.elim

section
variable {P : Program} {E : Env} {X : Cx}

theorem yielded_ok {st : St} {a : Act} {w : World} {γ : Nat → Gh} (R : Rel X st a w γ) {ops : Array Oper} {j g : Nat} (hg : gslot ops.toList j = some g) :
    (∀ b, (st.fr g = .sc (.lit b) ∨ st.fr g = .sc (.bool b)) → yielded ops a.tmps j = some b) ∧ (st.fr g = .sc .und → yielded ops a.tmps j = none) := by
  have hd : (ops[j]?).bind (·.dst) = some g := by
    unfold gslot at hg
    rw [Array.getElem?_toList] at hg
    split at hg
    · rename_i o ho; rw [ho]; exact hg
    · cases hg
  have hfr := R.fr g
  unfold yielded
  rw [hd]
  simp only [Option.bind_some]
  constructor
  · intro b hb
    have hv : a.tmps.getD g undef = .bool b := by
      rcases hb with hb | hb <;> (rw [hb] at hfr; exact hfr)
    rw [Array.getD_eq_getD_getElem?] at hv
    cases hq : a.tmps[g]? with
    | none => rw [hq] at hv; cases hv
    | some v => rw [hq] at hv; simp at hv; subst hv; rfl
  · intro hb
    rw [hb] at hfr
    have hv : a.tmps.getD g undef = undef := hfr
    rw [Array.getD_eq_getD_getElem?] at hv
    cases hq : a.tmps[g]? with
    | none => rfl
    | some v => rw [hq] at hv; simp at hv; subst hv; rfl

/-- One operation under its guard. -/
theorem opG_ok (hE : EnvOk P E X) (hX : X.n = E.n) {ops : Array Oper} {o : Oper} {st : St} {a : Act} {w : World} {γ : Nat → Gh} (R : Rel X st a w γ) {hr : Nat → Option Ob} (hs : ∀ i o, hr i = some o → st.hp i = some o) {ok : List Up → Bool}
    {K : St → Prop} {K' : Act → World → Prop} {Q : Exit → Act → World → Prop}
    (h : outK o.dst (gOut E.n ops.toList o.guard o.dst (rawOut E hr ok o.dst o.op) st) K st) (hK : ∀ st' a' w' γ', Rel X st' a' w' γ' → K st' → K' a' w') :
    if Region.wanted o (yielded ops a.tmps) then o.wp P a w K' Q else K' (a.put o.dst undef) w := by
  obtain ⟨p, v, us, h1, h2, h3⟩ := h
  unfold gOut at h1
  have on : gOn ops.toList o.guard st = some true → Region.wanted o (yielded ops a.tmps) = true := by
    intro hg
    unfold gOn at hg
    unfold Region.wanted
    split at hg
    · rename_i e; rw [e]
    · rename_i j want e
      rw [e]
      split at hg
      · rename_i g hgs
        have hy := yielded_ok R hgs
        split at hg
        · rename_i b hb; simp only [hy.1 b (.inl hb)]; cases b <;> cases want <;> first | rfl | cases hg
        · cases hg
        · rename_i b hb; simp only [hy.1 b (.inr hb)]; cases b <;> cases want <;> first | rfl | cases hg
        · cases hg
      · cases hg
  have off : gOn ops.toList o.guard st = some false → Region.wanted o (yielded ops a.tmps) = false := by
    intro hg
    unfold gOn at hg
    unfold Region.wanted
    split at hg
    · cases hg
    · rename_i j want e
      rw [e]
      split at hg
      · rename_i g hgs
        have hy := yielded_ok R hgs
        split at hg
        · rename_i b hb; simp only [hy.1 b (.inl hb)]; cases b <;> cases want <;> first | rfl | cases hg
        · rename_i hb; simp only [hy.2 hb]; rfl
        · rename_i b hb; simp only [hy.1 b (.inr hb)]; cases b <;> cases want <;> first | rfl | cases hg
        · cases hg
      · cases hg
  split at h1
  · rename_i hg
    rw [on hg, if_pos rfl]
    unfold rawOut at h1
    split at h1
    · rename_i ps v' us' hd hact
      split at h1
      · rename_i hc
        cases h1
        simp only [Bool.and_eq_true] at hc
        have hn := distB_true hc.1.2
        refine op_wp (act_ok hE R hs hact h2 hc.1.1 hn) fun v' w' γ' hstep => ?_
        exact hK _ _ _ _ (R.put hstep hc.1.1 hn (by rw [hX]; exact hd)) h3
      · cases h1
    · cases h1
  · rename_i hg
    rw [off hg, if_neg (by simp)]
    split at h1
    · rename_i hd
      cases h1
      exact hK _ _ _ _ (R.put (StepOk.pure (v := .sc .und) (v' := undef) rfl) rfl (by simp) (by rw [hX]; exact hd)) h3
    · cases h1
  · cases h1

/-! ### whatever order -/

/-- Operation 'o' with its footprint. -/
def fOut (E : Env) (all : List Oper) (o : Oper) (fp : Fp) (st : St) : Out :=
  gOut E.n all o.guard o.dst (fun st => rawOut E (restrict st.hp (fp.r ++ fp.w)) (fun us => subB (us.map (·.id)) fp.w) o.dst o.op st) st

def aStep (E : Env) (all : List Oper) (fps : List Fp) (i : Nat) (K : St → Prop) (st : St) : Prop :=
  match all[i]?, fps[i]? with
  | some o, some fp => outK o.dst (fOut E all o fp st) K st
  | _, _ => False

theorem aStep_mono {all : List Oper} {fps : List Fp} {i : Nat} {K K' : St → Prop} {st : St} (h : ∀ s, K s → K' s) (hh : aStep E all fps i K st) : aStep E all fps i K' st := by
  unfold aStep at *
  split
  · rename_i h1 h2
    rw [h1, h2] at hh
    obtain ⟨p, v, us, q1, q2, q3⟩ := hh
    exact ⟨p, v, us, q1, q2, h _ q3⟩
  · rename_i hn
    split at hh
    · rename_i o fp h1 h2; exact (hn o fp h1 h2).elim
    · exact hh.elim

def wpAnyA (E : Env) (ops : Array Oper) (fps : List Fp) (K : St → Prop) : Nat → Array Bool → St → Prop
  | 0, listed, st => Region.ready .any ops listed = [] ∧ K st
  | fuel + 1, listed, st => (Region.ready .any ops listed = [] → K st) ∧ ∀ i ∈ Region.ready .any ops listed, aStep E ops.toList fps i (wpAnyA E ops fps K fuel (listed.setIfInBounds i true)) st

theorem any_ok (hE : EnvOk P E X) (hX : X.n = E.n) {ops : Array Oper} {fps : List Fp} {K : St → Prop} {Q : Exit → Act → World → Prop} (hK : ∀ st' a' w' γ', Rel X st' a' w' γ' → K st' → Q .normal a' w') :
    ∀ (fuel : Nat) (listed : Array Bool) (st : St) (a : Act) (w : World) (γ : Nat → Gh), Rel X st a w γ → wpAnyA E ops fps K fuel listed st → wpAny P .any ops Q fuel listed a w
  | 0, _, _, _, _, _, R, h => ⟨h.1, hK _ _ _ _ R h.2⟩
  | fuel + 1, listed, st, a, w, γ, R, h => ⟨fun h0 => hK _ _ _ _ R (h.1 h0), fun i hi => by
    have h1 := h.2 i hi
    unfold aStep at h1
    split at h1
    · rename_i o fp ho hfp
      have ho' : ops[i]? = some o := by rw [← Array.getElem?_toList]; exact ho
      have := opG_ok hE hX (ops := ops) R (hr := restrict st.hp (fp.r ++ fp.w)) (fun j q hq => by
        unfold restrict at hq
        split at hq
        · exact hq
        · cases hq) (Q := Q) (K' := wpAny P .any ops Q fuel (listed.setIfInBounds i true)) h1 (fun st' a' w' γ' R' h' => any_ok hE hX hK fuel _ st' a' w' γ' R' h')
      unfold wpOp
      rw [ho']
      simp only
      split
      · rename_i hw; rw [if_pos hw] at this; exact .inl this
      · rename_i hw; rw [if_neg hw] at this; exact this
    · exact h1.elim⟩

/-! Two operations that do not touch each other. -/

theorem okUps_congr : ∀ {us : List Up} {f g : Nat → Bool}, (∀ u ∈ us, f u.id = g u.id) → okUps f us = okUps g us
  | [], _, _, _ => rfl
  | u :: r, f, g, h => by
    have h0 := h u List.mem_cons_self
    have hr := okUps_congr (us := r) (f := f) (g := g) fun v hv => h v (List.mem_cons_of_mem _ hv)
    have hr2 := okUps_congr (us := r) (f := upd f u.id true) (g := upd g u.id true) fun v hv => by
      by_cases e : v.id = u.id
      · rw [e, upd_same, upd_same]
      · rw [upd_ne _ _ e, upd_ne _ _ e]; exact h v (List.mem_cons_of_mem _ hv)
    unfold okUps
    rw [h0, hr, hr2]

/-- What an operation looks at. -/
theorem ev_upd {fr : Nat → SV} {d : Nat} {v : SV} {x : Operand} (h : ∀ t, x = .tmp t → t ≠ d) : ev (upd fr d v) x = ev fr x := by
  cases x with
  | tmp t => exact upd_ne _ _ (h t rfl)
  | _ => rfl

theorem map_congr' {α β : Type} {f g : α → β} {l : List α} (h : ∀ x ∈ l, f x = g x) : l.map f = l.map g := List.map_congr_left h

theorem partsOf_congr {ty : Ty} {ρ ρ' : Operand → SV} : ∀ {l : List (Nat × Operand)}, (∀ p ∈ l, ρ p.2 = ρ' p.2) → partsOf ty ρ l = partsOf ty ρ' l
  | [], _ => rfl
  | (i, x) :: r, h => by
    have h0 := h (i, x) List.mem_cons_self
    have ih := partsOf_congr (ty := ty) (l := r) fun p hp => h p (List.mem_cons_of_mem _ hp)
    simp only at h0
    simp only [partsOf, h0, ih]

theorem elemsOf_congr {ρ ρ' : Operand → SV} : ∀ {l : List (Nat × Operand)} {k : Nat}, (∀ p ∈ l, ρ p.2 = ρ' p.2) → elemsOf ρ k l = elemsOf ρ' k l
  | [], _, _ => rfl
  | (i, x) :: r, k, h => by
    have h0 := h (i, x) List.mem_cons_self
    have ih := elemsOf_congr (l := r) (k := k + 1) fun p hp => h p (List.mem_cons_of_mem _ hp)
    simp only at h0
    simp only [elemsOf, h0, ih]

theorem act_congr {d : Option Nat} {ρ ρ' : Operand → SV} {h : Nat → Option Ob} {op : Op} (hρ : ∀ x ∈ op.operands, ρ x = ρ' x) : act E d ρ h op = act E d ρ' h op := by
  cases op with
  | move x => have h1 := hρ x (by simp [Op.operands]); simp only [act, h1]
  | assign x => have h1 := hρ x (by simp [Op.operands]); simp only [act, h1]
  | pick c x y => have h1 := hρ c (by simp [Op.operands]); have h2 := hρ x (by simp [Op.operands]); have h3 := hρ y (by simp [Op.operands]); simp only [act, h1, h2, h3]
  | box t x => have h1 := hρ x (by simp [Op.operands]); simp only [act, h1]
  | build t ps =>
    have h1 := partsOf_congr (ρ := ρ) (ρ' := ρ') (l := ps.toList) (ty := (E.T t).getD ⟨0, 0, false, [], [], none, none⟩) fun p hp => hρ p.2 (by simp [Op.operands]; exact ⟨p.1, by simpa using hp⟩)
    simp only [act]
    cases hT : E.T t with
    | none => rfl
    | some ty => rw [hT] at h1; simp only [Option.getD_some] at h1; simp only [h1]
  | buildSlice t n ps =>
    have h1 := elemsOf_congr (ρ := ρ) (ρ' := ρ') (l := ps.toList) (k := 0) fun p hp => hρ p.2 (by simp [Op.operands]; exact ⟨p.1, by simpa using hp⟩)
    simp only [act, h1]
  | load t x => have h1 := hρ x (by simp [Op.operands]); simp only [act, h1]
  | store t x y => have h1 := hρ x (by simp [Op.operands]); have h2 := hρ y (by simp [Op.operands]); simp only [act, h1, h2]
  | binOp op t x y u => have h1 := hρ x (by simp [Op.operands]); have h2 := hρ y (by simp [Op.operands]); simp only [act, h1, h2]
  | unOp op t x => have h1 := hρ x (by simp [Op.operands]); cases op <;> simp only [act, h1]
  | fieldAddr t x f => have h1 := hρ x (by simp [Op.operands]); simp only [act, h1]
  | makeSlice t x y => have h1 := hρ x (by simp [Op.operands]); have h2 := hρ y (by simp [Op.operands]); simp only [act, h1, h2]
  | index t x y => have h1 := hρ x (by simp [Op.operands]); have h2 := hρ y (by simp [Op.operands]); simp only [act, h1, h2]
  | indexAddr t x y => have h1 := hρ x (by simp [Op.operands]); have h2 := hρ y (by simp [Op.operands]); simp only [act, h1, h2]
  | slice t x lo hi mx =>
    cases mx with
    | some m => rfl
    | none =>
      have h1 := hρ x (by simp [Op.operands])
      have h2 : lo.map ρ = lo.map ρ' := by cases lo with | none => rfl | some y => simp only [Option.map_some]; rw [hρ y (by simp [Op.operands])]
      have h3 : hi.map ρ = hi.map ρ' := by cases hi with | none => rfl | some y => simp only [Option.map_some]; rw [hρ y (by simp [Op.operands])]
      simp only [act, h1, h2, h3]
  | convert s t x => have h1 := hρ x (by simp [Op.operands]); simp only [act, h1]
  | extract x i => have h1 := hρ x (by simp [Op.operands]); simp only [act, h1]
  | nilCheck x => have h1 := hρ x (by simp [Op.operands]); simp only [act, h1]
  | makeFunc fn first caps =>
    cases fn with
    | func f =>
      have h1 : caps.toList.map ρ = caps.toList.map ρ' := map_congr' fun x hx => hρ x (by simp [Op.operands]; exact .inr (by simpa using hx))
      simp only [act, h1]
    | _ => rfl
  | call c =>
    have h1 : c.args.toList.map ρ = c.args.toList.map ρ' := map_congr' fun x hx => hρ x (by simp [Op.operands, Call.operands]; exact .inr (by simpa using hx))
    simp only [act, h1]
    cases hc : c.callee with
    | value g =>
      have h2 := hρ g (by simp [Op.operands, Call.operands, hc])
      simp only [h2]
    | invoke r n => rfl
    | builtin b => cases b <;> rfl
  | _ => rfl

theorem looks_mem {ops : List Oper} {o : Oper} {x : Operand} {t : Nat} (hx : x ∈ o.op.operands) (ht : x = .tmp t) : t ∈ looksL ops o := by
  unfold looksL
  refine List.mem_append.2 (.inl (List.mem_filterMap.2 ⟨x, by simpa using hx, ?_⟩))
  rw [ht]

theorem gOn_upd {ops : List Oper} {o : Oper} {st : St} {d : Nat} {v : SV} {hp : Nat → Option Ob} {ids : Nat → Bool} (h : d ∉ looksL ops o) : gOn ops o.guard ⟨upd st.fr d v, hp, ids⟩ = gOn ops o.guard st := by
  unfold gOn
  split
  · rfl
  · rename_i j want e
    split
    · rename_i g hg
      have hne : g ≠ d := by
        intro e2
        apply h
        unfold looksL
        refine List.mem_append.2 (.inr ?_)
        rw [e]
        simp only [hg]
        simp [e2]
      simp only [upd_ne _ _ hne]
    · rfl

/-- What an operation yields does not turn by what an independent one has done. -/
theorem fOut_put {ops : List Oper} {o : Oper} {fp : Fp} {d : Option Nat} {v : SV} {us : List Up} {st : St} (hd : ∀ t, d = some t → t ∉ looksL ops o) (hu : ∀ u ∈ us, u.id ∉ fp.r ++ fp.w) :
    fOut E ops o fp (st.put d v us) = fOut E ops o fp st := by
  have hres : restrict (st.put d v us).hp (fp.r ++ fp.w) = restrict st.hp (fp.r ++ fp.w) := by
    funext i
    unfold restrict
    cases he : elemB i (fp.r ++ fp.w)
    · rfl
    · have hi := elemB_true.1 he
      simp only
      rw [put_hp, updAll_off]
      intro hm
      obtain ⟨u, hu1, hu2⟩ := List.mem_map.1 hm
      exact hu u hu1 (hu2 ▸ hi)
  have hact : act E o.dst (ev (st.put d v us).fr) (restrict st.hp (fp.r ++ fp.w)) o.op = act E o.dst (ev st.fr) (restrict st.hp (fp.r ++ fp.w)) o.op := by
    cases d with
    | none => rfl
    | some t => exact act_congr fun x hx => ev_upd fun t' ht' e => hd t rfl (by rw [← e]; exact looks_mem hx ht')
  have hg : gOn ops o.guard (st.put d v us) = gOn ops o.guard st := by
    cases d with
    | none => rfl
    | some t => exact gOn_upd (hd t rfl)
  have hok : ∀ us' : List Up, subB (us'.map (·.id)) fp.w = true → okUps (st.put d v us).ids us' = okUps st.ids us' := by
    intro us' hs
    refine okUps_congr fun u hu' => ?_
    have hm := subB_true hs u.id (List.mem_map_of_mem hu')
    rw [put_ids]
    have hn : u.id ∉ us.map (·.id) := by
      intro hm'
      obtain ⟨u2, h1, h2⟩ := List.mem_map.1 hm'
      exact hu u2 h1 (by rw [h2]; exact List.mem_append.2 (.inr hm))
    cases h1 : st.ids u.id
    · cases h2 : updI st.ids us u.id
      · rfl
      · rcases updI_true.1 h2 with h3 | h3
        · rw [h1] at h3; cases h3
        · exact (hn h3).elim
    · exact updI_true.2 (.inl h1)
  unfold fOut gOut
  rw [hg]
  split
  · unfold rawOut
    dsimp only
    rw [hres, hact]
    split
    · rename_i ps v' us' h1 h2
      by_cases hs : subB (us'.map (·.id)) fp.w = true
      · rw [hok us' hs]
      · have hs : subB (us'.map (·.id)) fp.w = false := by simpa using hs
        simp only [hs, Bool.and_false]
    · rfl
  · rfl
  · rfl

theorem updAll_comm : ∀ {us vs : List Up} {h : Nat → Option Ob}, (∀ u ∈ us, ∀ v ∈ vs, u.id ≠ v.id) → updAll (updAll h us) vs = updAll (updAll h vs) us := by
  intro us
  induction us with
  | nil => intro vs h _; rfl
  | cons u us ih =>
    intro vs h hd
    have one : ∀ {vs : List Up} {h : Nat → Option Ob}, (∀ v ∈ vs, u.id ≠ v.id) → updAll (upd h u.id u.ob) vs = upd (updAll h vs) u.id u.ob := by
      intro vs
      induction vs with
      | nil => intro h _; rfl
      | cons v vs ihv =>
        intro h hd
        have hne := hd v List.mem_cons_self
        simp only [updAll]
        have : upd (upd h u.id u.ob) v.id v.ob = upd (upd h v.id v.ob) u.id u.ob := by
          funext j
          by_cases e1 : j = v.id
          · subst e1; rw [upd_same, upd_ne _ _ (Ne.symm hne), upd_same]
          · by_cases e2 : j = u.id
            · subst e2; rw [upd_ne _ _ e1, upd_same, upd_same]
            · rw [upd_ne _ _ e1, upd_ne _ _ e2, upd_ne _ _ e2, upd_ne _ _ e1]
        rw [this]
        exact ihv fun w hw => hd w (List.mem_cons_of_mem _ hw)
    simp only [updAll]
    rw [ih fun x hx v hv => hd x (List.mem_cons_of_mem _ hx) v hv, one fun v hv => hd u List.mem_cons_self v hv]

theorem put_comm {st : St} {d1 d2 : Option Nat} {v1 v2 : SV} {u1 u2 : List Up} (hd : ∀ t, d1 = some t → d2 ≠ some t) (hu : ∀ u ∈ u1, ∀ v ∈ u2, u.id ≠ v.id) :
    (st.put d1 v1 u1).put d2 v2 u2 = (st.put d2 v2 u2).put d1 v1 u1 := by
  have h1 : updAll (updAll st.hp u1) u2 = updAll (updAll st.hp u2) u1 := updAll_comm hu
  have h2 : updI (updI st.ids u1) u2 = updI (updI st.ids u2) u1 := by
    funext i
    apply Bool.eq_iff_iff.2
    rw [updI_true, updI_true, updI_true, updI_true]
    constructor <;> (rintro ((h | h) | h) <;> simp [h])
  cases d1 <;> cases d2 <;> simp only [St.put, h1, h2]
  rename_i t1 t2
  have hne : t1 ≠ t2 := fun e => hd t1 rfl (by rw [e])
  congr 1
  funext j
  by_cases e1 : j = t2
  · subst e1; rw [upd_same, upd_ne _ _ (Ne.symm hne), upd_same]
  · by_cases e2 : j = t1
    · subst e2; rw [upd_ne _ _ e1, upd_same, upd_same]
    · rw [upd_ne _ _ e1, upd_ne _ _ e2, upd_ne _ _ e2, upd_ne _ _ e1]

/-- What an operation updates lies in its footprint. -/
theorem fOut_ids {ops : List Oper} {o : Oper} {fp : Fp} {st : St} {p : Prop} {v : SV} {us : List Up} (h : fOut E ops o fp st = some (p, v, us)) : ∀ u ∈ us, u.id ∈ fp.w := by
  unfold fOut gOut at h
  split at h
  · unfold rawOut at h
    dsimp only at h
    split at h
    · split at h
      · rename_i hc
        cases h
        simp only [Bool.and_eq_true] at hc
        exact fun u hu => subB_true hc.2 u.id (List.mem_map_of_mem hu)
      · cases h
    · cases h
  · split at h
    · cases h; intro u hu; cases hu
    · cases h
  · cases h

theorem indep_spec {ops : List Oper} {x y : Oper} {fx fy : Fp} (h : indepB ops x fx y fy = true) :
    (∀ t, x.dst = some t → t ∉ looksL ops y ∧ y.dst ≠ some t) ∧ (∀ t, y.dst = some t → t ∉ looksL ops x) ∧ (∀ i ∈ fx.w, i ∉ fy.r ++ fy.w) ∧ (∀ i ∈ fy.w, i ∉ fx.r ++ fx.w) := by
  unfold indepB at h
  simp only [Bool.and_eq_true] at h
  obtain ⟨⟨⟨h1, h2⟩, h3⟩, h4⟩ := h
  have h1 := disjB_true h1
  have h2 := disjB_true h2
  have h3 := disjB_true h3
  have h4 := disjB_true h4
  refine ⟨fun t ht => ?_, fun t ht => h2 t (by rw [ht]; simp), h3, fun i hi hm => ?_⟩
  · have := h1 t (by rw [ht]; simp)
    rw [List.mem_append, not_or] at this
    exact ⟨this.1, fun e => this.2 (by rw [e]; simp)⟩
  · rcases List.mem_append.1 hm with hm | hm
    · exact h4 i hm hi
    · exact h3 i hm (List.mem_append.2 (.inr hi))

theorem aStep_comm {ops : List Oper} {fps : List Fp} {i j : Nat} {x y : Oper} {fx fy : Fp} (hx : ops[i]? = some x) (hfx : fps[i]? = some fx) (hy : ops[j]? = some y) (hfy : fps[j]? = some fy)
    (hind : indepB ops x fx y fy = true) {K : St → Prop} {st : St} (h : aStep E ops fps i (aStep E ops fps j K) st) : aStep E ops fps j (aStep E ops fps i K) st := by
  obtain ⟨i1, i2, i3, i4⟩ := indep_spec hind
  unfold aStep at h ⊢
  rw [hx, hfx] at h
  rw [hy, hfy] at h ⊢
  simp only at h ⊢
  obtain ⟨p, v, us, q1, q2, p', v', us', q3, q4, q5⟩ := h
  have hui := fOut_ids q1
  rw [fOut_put (fun t ht => (i1 t ht).1) (fun u hu => i3 u.id (hui u hu))] at q3
  have huj := fOut_ids q3
  refine ⟨p', v', us', q3, q4, ?_⟩
  rw [hx, hfx]
  simp only
  refine ⟨p, v, us, ?_, q2, ?_⟩
  · rw [fOut_put i2 (fun u hu => i4 u.id (huj u hu))]; exact q1
  · rw [← put_comm (fun t ht => (i1 t ht).2) (fun u hu w hw e => i3 u.id (hui u hu) (by rw [e]; exact List.mem_append.2 (.inr (huj w hw))))]
    exact q5

end
end Go.Vx
namespace Go.Vx
set_option linter.unusedSimpArgs false
set_option linter.unusedVariables false
open Go Go.RowKit

section
variable {E : Env} {ops : Array Oper} {fps : List Fp} {K : St → Prop}

/-- Whatever is listed waits for what is listed alone. -/
def Down (ops : Array Oper) (listed : Array Bool) : Prop :=
  ∀ (m : Nat) (o : Oper), ops[m]? = some o → listed.getD m false = true → ∀ e ∈ o.after, Region.binds .any e = true → listed.getD e.on false = true

theorem down_set {listed : Array Bool} (h : Down ops listed) {j : Nat} (hj : j ∈ Region.ready .any ops listed) : Down ops (listed.setIfInBounds j true) := by
  intro m o ho hm e he hb
  rw [mem_ready] at hj
  obtain ⟨_, oj, hoj, hall⟩ := hj
  by_cases e1 : m = j
  · subst e1
    rw [ho] at hoj
    cases hoj
    exact getD_set_true (hall e he hb)
  · have : listed.getD m false = true := by
      rw [← hm]
      simp [Array.getElem?_setIfInBounds_ne (Ne.symm e1)]
    exact getD_set_true (h m o ho this e he hb)

/-- The table of those that come ahead. -/
structure AncOk (ops : Array Oper) (A : List (List Nat)) : Prop where
  anc : ∀ (j : Nat) (o : Oper), ops[j]? = some o → ∀ i ∈ A.getD j [], ∃ e ∈ o.after, Region.binds .any e = true ∧ (i = e.on ∨ i ∈ A.getD e.on [])
  lt : ∀ (j : Nat) (o : Oper), ops[j]? = some o → ∀ e ∈ o.after, Region.binds .any e = true → e.on < j

theorem anc_listed {A : List (List Nat)} (hA : AncOk ops A) {listed : Array Bool} (hd : Down ops listed) : ∀ (j : Nat) (o : Oper), ops[j]? = some o → (∀ e ∈ o.after, Region.binds .any e = true → listed.getD e.on false = true) → ∀ i ∈ A.getD j [], listed.getD i false = true := by
  intro j
  induction j using Nat.strongRecOn with
  | _ j ih =>
    intro o ho hall i hi
    obtain ⟨e, he, hb, hor⟩ := hA.anc j o ho i hi
    have hl := hall e he hb
    rcases hor with rfl | hor
    · exact hl
    · have hlt := hA.lt j o ho e he hb
      have hjs : j < ops.size := (Array.getElem?_eq_some_iff.1 ho).1
      have he' : ops[e.on]? = some (ops[e.on]'(by omega)) := Array.getElem?_eq_getElem (by omega)
      exact ih e.on hlt _ he' (hd e.on _ he' hl) i hor

/-- **An operation that may come now may be taken first.** -/
theorem any_first {A : List (List Nat)} (hA : AncOk ops A) {i : Nat} {x : Oper} {fx : Fp} (hx : ops.toList[i]? = some x) (hfx : fps[i]? = some fx)
    (hind : ∀ (j : Nat) (y : Oper) (fy : Fp), i < j → ops.toList[j]? = some y → fps[j]? = some fy → i ∉ A.getD j [] → indepB ops.toList x fx y fy = true) :
    ∀ (fuel : Nat) (listed : Array Bool) (st : St), (∀ k, k < i → listed.getD k false = true) → Down ops listed → i ∈ Region.ready .any ops listed →
      aStep E ops.toList fps i (wpAnyA E ops fps K fuel (listed.setIfInBounds i true)) st → wpAnyA E ops fps K (fuel + 1) listed st := by
  intro fuel
  induction fuel with
  | zero =>
    intro listed st hpre hd hr H
    refine ⟨(fun h => by rw [h] at hr; cases hr), fun j hj => ?_⟩
    by_cases hji : j = i
    · subst hji; exact H
    · have h1 := ready_mono hj hji
      unfold aStep at H
      rw [hx, hfx] at H
      obtain ⟨_, _, _, _, _, h2⟩ := H
      rw [h2.1] at h1
      cases h1
  | succ fuel ih =>
    intro listed st hpre hd hr H
    refine ⟨(fun h => by rw [h] at hr; cases hr), fun j hj => ?_⟩
    by_cases hji : j = i
    · subst hji; exact H
    · have hj1 := ready_mono hj hji
      have hr0 := mem_ready.1 hr
      obtain ⟨hjun, oj, hoj, hall⟩ := mem_ready.1 hj
      have hjl : ops.toList[j]? = some oj := by rw [Array.getElem?_toList]; exact hoj
      have hij : i < j := by
        rcases Nat.lt_trichotomy i j with h | h | h
        · exact h
        · exact (hji h.symm).elim
        · have h1 := hpre j h
          cases hq : listed[j]? with
          | none => simp [hq] at h1
          | some b => simp [hq] at h1 hjun; rw [h1] at hjun; cases hjun
      -- i is not yet listed: j does not wait for it
      have hna : i ∉ A.getD j [] := fun hm => by
        have h1 := anc_listed hA hd j oj hoj hall i hm
        have h0 := hr0.1
        cases hq : listed[i]? with
        | none => simp [hq] at h1
        | some b => simp [hq] at h1 h0; rw [h1] at h0; cases h0
      have h1 : aStep E ops.toList fps i (aStep E ops.toList fps j (wpAnyA E ops fps K fuel ((listed.setIfInBounds i true).setIfInBounds j true))) st :=
        aStep_mono (fun s hs => hs.2 j hj1) H
      -- j has a footprint
      have hfy : ∃ fy, fps[j]? = some fy := by
        unfold aStep at h1
        rw [hx, hfx] at h1
        obtain ⟨_, _, _, _, _, h2⟩ := h1
        rw [hjl] at h2
        cases hq : fps[j]? with
        | none => rw [hq] at h2; exact h2.elim
        | some fy => exact ⟨fy, rfl⟩
      obtain ⟨fy, hfy⟩ := hfy
      have h2 := aStep_comm hx hfx hjl hfy (hind j oj fy hij hjl hfy hna) h1
      refine aStep_mono (fun s hs => ih (listed.setIfInBounds j true) s (fun k hk => getD_set_true (hpre k hk)) (down_set hd hj) (ready_mono hr (Ne.symm hji)) ?_) h2
      rw [Array.setIfInBounds_comm _ _ hji]
      exact hs

/-- The first k are listed. -/
def firstN (n k : Nat) : Array Bool := (List.toArray ((List.range n).map fun i => decide (i < k)))

theorem firstN_get (n k i : Nat) (d : Bool) : (firstN n k).getD i d = if i < n then decide (i < k) else d := by
  simp only [firstN, Array.getD_eq_getD_getElem?, List.getElem?_toArray, List.getElem?_map]
  by_cases h : i < n
  · simp [h]
  · simp [h, List.getElem?_eq_none (l := List.range n) (by simpa using Nat.le_of_not_lt h)]

theorem firstN_zero (n : Nat) : firstN n 0 = Array.replicate n false := by
  apply Array.ext'
  simp only [firstN, Array.toList_replicate]
  apply List.ext_getElem?
  intro i
  by_cases h : i < n <;> simp [h, List.getElem?_replicate]

theorem firstN_succ (n k : Nat) : (firstN n k).setIfInBounds k true = firstN n (k + 1) := by
  apply Array.ext'
  apply List.ext_getElem?
  intro i
  rw [Array.toList_setIfInBounds]
  simp only [firstN, List.getElem?_set, List.getElem?_map]
  by_cases h : k = i
  · subst h
    by_cases hn : k < n <;> simp [hn]
  · simp only [h, if_false]
    by_cases hn : i < n
    · simp [hn]; omega
    · simp [hn]

theorem any_lex {A : List (List Nat)} (hA : AncOk ops A) (hlen : fps.length = ops.size)
    (hind : ∀ (i j : Nat) (x y : Oper) (fx fy : Fp), i < j → ops.toList[i]? = some x → fps[i]? = some fx → ops.toList[j]? = some y → fps[j]? = some fy → i ∉ A.getD j [] → indepB ops.toList x fx y fy = true) :
    ∀ (l : List Oper) (fl : List Fp) (k : Nat) (st : St), k + l.length = ops.size → (∀ j, l[j]? = ops.toList[k + j]?) → (∀ j, fl[j]? = fps[k + j]?) → vcOpsF E ops.toList K l fl st → wpAnyA E ops fps K l.length (firstN ops.size k) st
  | [], fl, k, st, hk, _, _, h => by
    refine ⟨?_, h⟩
    apply List.eq_nil_iff_forall_not_mem.2
    intro i hi
    obtain ⟨h0, o, ho, _⟩ := mem_ready.1 hi
    have hlt : i < ops.size := (Array.getElem?_eq_some_iff.1 ho).1
    rw [firstN_get, if_pos hlt] at h0
    simp at h0 hk
    omega
  | o :: l, [], k, st, hk, hl, hfl, h => h.elim
  | o :: l, fp :: fl, k, st, hk, hl, hfl, h => by
    have h0 : ops.toList[k]? = some o := by simpa using (hl 0).symm
    have hf0 : fps[k]? = some fp := by simpa using (hfl 0).symm
    have h0' : ops[k]? = some o := by rw [← Array.getElem?_toList]; exact h0
    have hklt : k < ops.size := (Array.getElem?_eq_some_iff.1 h0').1
    have hg := vcG_out (out := fun st => rawOut E (restrict st.hp (fp.r ++ fp.w)) (fun us => subB (us.map (·.id)) fp.w) o.dst o.op st) (fun h => vcOpF_out h) h
    have hstep : aStep E ops.toList fps k (wpAnyA E ops fps K l.length (firstN ops.size (k + 1))) st := by
      unfold aStep
      rw [h0, hf0]
      obtain ⟨p, v, us, q1, q2, q3⟩ := hg
      exact ⟨p, v, us, q1, q2, any_lex hA hlen hind l fl (k + 1) _ (by simp at hk; omega) (fun j => by have := hl (j + 1); simpa [Nat.add_assoc, Nat.add_comm 1 j] using this) (fun j => by have := hfl (j + 1); simpa [Nat.add_assoc, Nat.add_comm 1 j] using this) q3⟩
    rw [← firstN_succ] at hstep
    refine any_first hA h0 hf0 (fun j y fy hij hy hfy hn => hind k j o y fp fy hij h0 hf0 hy hfy hn) l.length _ st ?_ ?_ ?_ hstep
    · intro i hi
      rw [firstN_get, if_pos (by omega)]
      simpa using hi
    · intro m om hom hm e he hb
      have hlt := hA.lt m om hom e he hb
      have hms : m < ops.size := (Array.getElem?_eq_some_iff.1 hom).1
      rw [firstN_get, if_pos hms] at hm
      simp at hm
      rw [firstN_get, if_pos (by omega)]
      simp
      omega
    · refine mem_ready.2 ⟨by rw [firstN_get, if_pos hklt]; simp, o, h0', fun e he hb => ?_⟩
      have hlt := hA.lt k o h0' e he hb
      rw [firstN_get, if_pos (by omega)]
      simpa using hlt

theorem dedupB_mem : ∀ {l : List Nat} {i : Nat}, i ∈ dedupB l → i ∈ l
  | [], _, h => h
  | k :: r, i, h => by
    unfold dedupB at h
    split at h
    · exact List.mem_cons_of_mem _ (dedupB_mem h)
    · rcases List.mem_cons.1 h with rfl | h
      · exact List.mem_cons_self
      · exact List.mem_cons_of_mem _ (dedupB_mem h)

def ancF (acc : List (List Nat)) (o : Oper) : List Nat := dedupB (o.after.toList.flatMap fun e => match Region.binds .any e with | true => e.on :: acc.getD e.on [] | false => [])

theorem ancs_keep : ∀ (l : List Oper) (acc : List (List Nat)) (i : Nat), i < acc.length → (ancs acc l).getD i [] = acc.getD i []
  | [], _, _, _ => rfl
  | o :: r, acc, i, h => by
    simp only [ancs]
    rw [ancs_keep r _ i (by rw [List.length_append]; omega)]
    simp [List.getD, List.getElem?_append_left h]

theorem ancs_entry : ∀ (l : List Oper) (acc : List (List Nat)) (j : Nat) (o : Oper), l[j]? = some o →
    ∃ acc' : List (List Nat), acc'.length = acc.length + j ∧ (∀ i, i < acc'.length → (ancs acc l).getD i [] = acc'.getD i []) ∧ (ancs acc l).getD (acc.length + j) [] = ancF acc' o
  | [], _, _, _, h => by simp at h
  | x :: r, acc, 0, o, h => by
    simp at h
    subst h
    refine ⟨acc, rfl, fun i hi => ancs_keep _ _ _ hi, ?_⟩
    simp only [ancs]
    rw [ancs_keep r _ _ (by rw [List.length_append]; simp)]
    simp [List.getD, ancF]
    rfl
  | x :: r, acc, j + 1, o, h => by
    simp only [List.getElem?_cons_succ] at h
    obtain ⟨acc', h1, h2, h3⟩ := ancs_entry r (acc ++ [ancF acc x]) j o h
    refine ⟨acc', by rw [h1, List.length_append]; simp; omega, h2, ?_⟩
    rw [← h3]
    congr 1
    rw [List.length_append]
    simp
    omega

theorem lexOk_spec : ∀ {l : List Oper} {k : Nat}, lexOk k l = true → ∀ (j : Nat) (o : Oper), l[j]? = some o → ∀ e ∈ o.after, Region.binds .any e = true → e.on < k + j
  | [], _, _, _, _, h, _, _, _ => by simp at h
  | x :: r, k, h, 0, o, ho, e, he, hb => by
    simp at ho
    subst ho
    simp only [lexOk, Bool.and_eq_true] at h
    have := List.all_eq_true.1 h.1 e (by simpa using he)
    simp only [hb] at this
    have := Nat.le_of_ble_eq_true this
    omega
  | x :: r, k, h, j + 1, o, ho, e, he, hb => by
    simp only [lexOk, Bool.and_eq_true] at h
    simp only [List.getElem?_cons_succ] at ho
    have := lexOk_spec h.2 j o ho e he hb
    omega

theorem ancOk_of (h : lexOk 0 ops.toList = true) : AncOk ops (ancs [] ops.toList) := by
  have hlt : ∀ (j : Nat) (o : Oper), ops[j]? = some o → ∀ e ∈ o.after, Region.binds .any e = true → e.on < j := fun j o ho e he hb => by
    have := lexOk_spec h j o (by rw [Array.getElem?_toList]; exact ho) e he hb
    omega
  refine ⟨fun j o ho i hi => ?_, hlt⟩
  obtain ⟨acc', h1, h2, h3⟩ := ancs_entry ops.toList [] j o (by rw [Array.getElem?_toList]; exact ho)
  simp only [List.length_nil, Nat.zero_add] at h1 h3
  rw [h3] at hi
  unfold ancF at hi
  have hi := dedupB_mem hi
  obtain ⟨e, he, hm⟩ := List.mem_flatMap.1 hi
  have he' : e ∈ o.after := by simpa using he
  split at hm
  · rename_i hb
    refine ⟨e, he', hb, ?_⟩
    rcases List.mem_cons.1 hm with rfl | hm
    · exact .inl rfl
    · right
      rw [h2 e.on (by have := hlt j o ho e he' hb; omega)]
      exact hm
  · cases hm

theorem confRow_spec {all : List Oper} {x : Oper} {fx : Fp} {i : Nat} : ∀ {ys : List Oper} {fys : List Fp} {as : List (List Nat)}, confRow all x fx i ys fys as = true →
    ∀ (j : Nat) (y : Oper) (fy : Fp), ys[j]? = some y → fys[j]? = some fy → i ∉ as.getD j [] → indepB all x fx y fy = true
  | [], _, _, _, _, _, _, h, _, _ => by simp at h
  | y :: ys, fy :: fys, a :: as, h, 0, y', fy', hy, hf, hn => by
    simp at hy hf
    subst hy; subst hf
    simp only [confRow, Bool.and_eq_true, Bool.or_eq_true] at h
    rcases h.1 with h1 | h1
    · exact (hn (by simpa using elemB_true.1 h1)).elim
    · exact h1
  | y :: ys, fy :: fys, a :: as, h, j + 1, y', fy', hy, hf, hn => by
    simp only [confRow, Bool.and_eq_true] at h
    simp only [List.getElem?_cons_succ] at hy hf
    exact confRow_spec h.2 j y' fy' hy hf (by simpa using hn)
  | y :: ys, [], _, h, _, _, _, _, _, _ => by simp [confRow] at h
  | y :: ys, _ :: _, [], h, _, _, _, _, _, _ => by simp [confRow] at h

theorem confFrom_spec {all : List Oper} : ∀ {xs : List Oper} {fxs : List Fp} {as : List (List Nat)} {k : Nat}, confFrom all k xs fxs as = true →
    (∀ (i j : Nat) (x y : Oper) (fx fy : Fp), i < j → xs[i]? = some x → fxs[i]? = some fx → xs[j]? = some y → fxs[j]? = some fy → k + i ∉ as.getD j [] → indepB all x fx y fy = true) ∧ xs.length ≤ fxs.length
  | [], _, _, _, _ => ⟨fun i j x y fx fy _ h => by simp at h, Nat.zero_le _⟩
  | x :: xs, fx :: fxs, a :: as, k, h => by
    simp only [confFrom, Bool.and_eq_true] at h
    obtain ⟨h1, h2⟩ := confFrom_spec h.2
    refine ⟨fun i j x' y fx' fy hij hx hfx hy hfy hn => ?_, by simp; exact h2⟩
    cases j with
    | zero => omega
    | succ j =>
      simp only [List.getElem?_cons_succ] at hy hfy
      cases i with
      | zero =>
        simp at hx hfx
        subst hx; subst hfx
        exact confRow_spec h.1 j y fy hy hfy (by simpa using hn)
      | succ i =>
        simp only [List.getElem?_cons_succ] at hx hfx
        refine h1 i j x' y fx' fy (by omega) hx hfx hy hfy ?_
        intro hm
        apply hn
        rw [show k + (i + 1) = k + 1 + i by omega]
        simpa using hm
  | x :: xs, [], _, _, h => by simp [confFrom] at h
  | x :: xs, _ :: _, [], _, h => by simp [confFrom] at h

theorem fpsOf_length {Γ : List Sig} {hp : Nat → Option Ob} : ∀ {l : List Oper} {sh : Nat → List Nat}, (fpsOf Γ hp sh l).length = l.length
  | [], _ => rfl
  | o :: r, sh => by
    unfold fpsOf
    split
    simp [fpsOf_length (l := r)]

/-- A region that draws its order. -/
theorem region_draw_ok {P : Program} {X : Cx} (hE : EnvOk P E X) (hX : X.n = E.n) (hm : P.follows .mixedOrders = true) {id : Nat} {Q : Exit → Act → World → Prop} (hK : ∀ st' a' w' γ', Rel X st' a' w' γ' → K st' → Q .normal a' w')
    {st : St} {a : Act} {w : World} {γ : Nat → Gh} (R : Rel X st a w γ) (hlen : fps.length = ops.size) (hc : confOk ops.toList fps = true) (h : vcOpsF E ops.toList K ops.toList fps st) : (Code.region id ops true).wp P Q a w := by
  unfold confOk at hc
  simp only [Bool.and_eq_true] at hc
  obtain ⟨⟨_, h1⟩, h2⟩ := hc
  have hA := ancOk_of h1
  have hind := (confFrom_spec h2).1
  have hl := any_lex (K := K) hA hlen (fun i j x y fx fy hij hx hfx hy hfy hn => hind i j x y fx fy hij hx hfx hy hfy (by simpa using hn)) ops.toList fps 0 st (by simp) (fun j => by simp) (fun j => by simp) h
  rw [firstN_zero] at hl
  have R' : Rel X st a { w with drawn := w.drawn + 1 } γ := by
    refine ⟨R.fr, R.sz, R.df, fun i o ho => ?_, R.id, R.sep, R.lo, ⟨R.kept.os, R.kept.tape, R.kept.output, R.kept.size, R.kept.block⟩, R.base⟩
    exact (R.ob i o ho).keep (Wider.refl _ _) (R.id i o ho) (Nat.le_refl _) fun _ _ => rfl
  refine wp_region_any hm ?_
  have := any_ok hE hX hK _ _ st a _ γ R' hl
  simpa using this

end
end Go.Vx
