/- Every operation of the evaluator is the model's: calls; all of them together. -/
import Derived.Test.YtalgocopemmelaaGreatDoorVxAct2
namespace Go.Vx
set_option linter.unusedSimpArgs false
set_option linter.unusedVariables false
open Go Go.RowKit

section
variable {P : Program} {E : Env} {X : Cx} {st : St} {a : Act} {w : World} {γ : Nat → Gh} {hr : Nat → Option Ob}

theorem denVs_map (R : Rel X st a w γ) : ∀ (l : List Operand), denVs st.ids γ (l.map (ev st.fr)) (l.map a.eval)
  | [] => trivial
  | x :: r => ⟨ev_ok R x, denVs_map R r⟩

theorem denVs_append {ids : Nat → Bool} : ∀ {s : List SV} {v : List Value} {s' : List SV} {v' : List Value}, denVs ids γ s v → denVs ids γ s' v' → denVs ids γ (s ++ s') (v ++ v')
  | [], [], _, _, _, h => h
  | _ :: _, _ :: _, _, _, h, h' => ⟨h.1, denVs_append h.2 h'⟩
  | [], _ :: _, _, _, h, _ => h.elim
  | _ :: _, [], _, _, h, _ => h.elim

theorem denVs_caps {ids : Nat → Bool} : ∀ {c : List (Nat × Nat)} {v : List Value}, denCap ids γ c v → denVs ids γ (c.map fun p => .sc (.ref p.1 p.2)) v
  | [], [], _ => trivial
  | _ :: _, _ :: _, h => ⟨h.1, denVs_caps h.2⟩
  | [], _ :: _, h => h.elim
  | _ :: _, [], h => h.elim

theorem act_callv (hE : EnvOk P E X) (R : Rel X st a w γ) (hs : ∀ i o, hr i = some o → st.hp i = some o) {o : Oper} {c : Call} {g : Operand} (ho : o.op = .call c) (hc : c.callee = .value g) {f : Nat} {caps : List (Nat × Nat)} (hf : ev st.fr g = .sc (.fn f caps))
    {ps : List Prop} {v : SV} {us : List Up} (h : callAct E.Γ E.C o.dst f hr (c.args.toList.map (ev st.fr) ++ caps.map fun p => .sc (.ref p.1 p.2)) = some (ps, v, us)) (hps : andL ps) (hok : okUps st.ids us = true) (hn : (us.map (·.id)).Nodup) : OpOk P o a st w γ v us := by
  have hg := ev_ok R g
  rw [hf] at hg
  obtain ⟨vs, hv, hcap⟩ := hg
  have hd := denVs_append (denVs_map R c.args.toList) (denVs_caps hcap)
  have hC := call_ok hE.kn R hs h hd hps hok hn
  have hfn : FnOk P f := by
    unfold callAct at h
    split at h
    · rename_i f' ks rs eff hfs
      obtain ⟨hm, hff⟩ := findSig_mem hfs
      have := hE.kn.fn _ hm
      simp only at hff
      rw [hff] at this
      exact this
    · cases h
  obtain ⟨fn, h1, h2, h3⟩ := hfn
  refine .inr (.inr ⟨f, (c.args.toList.map a.eval ++ vs).toArray, ?_, hC⟩)
  have hargs : (c.args.map a.eval) ++ List.toArray vs = (c.args.toList.map a.eval ++ vs).toArray := by
    apply Array.ext'
    simp
  simp only [execOp, ho, resolve, hc, hv, Deferred.ofValue, Sem.run_bind, Sem.run_pure, Result.andThen_ok, invoke, callFunc, run_program, h1]
  simp only [Array.empty_append, hargs, h2, h3, Bool.false_eq_true, if_false, Sem.run_pure]

/-- a call of a function that has been handed in -/
theorem act_callc (hE : EnvOk P E X) (R : Rel X st a w γ) {o : Oper} {c : Call} {g : Operand} (ho : o.op = .call c) (hc : c.callee = .value g) {id : Nat} (hf : ev st.fr g = .sc (.clo id))
    {ps : List Prop} {v : SV} {us : List Up} (h : cloAct E.C id (c.args.toList.map (ev st.fr)) = some (ps, v, us)) (hps : andL ps) : OpOk P o a st w γ v us := by
  have hg := ev_ok R g
  rw [hf] at hg
  obtain ⟨_, hv⟩ := hg
  have hd := denVs_map R c.args.toList
  have fin : ∀ {f : Nat} {caps : List Value} {r : Value} , FnOk P f → a.eval g = .func (.func f) #[] caps.toArray → denV st.ids γ v r → us = [] →
      (Calls P f ((c.args.toList.map a.eval ++ caps).toArray) w fun e w' => e = .returned r ∧ Kept (fun _ => False) w w') → OpOk P o a st w γ v us := by
    intro f caps r hfn hv hr hus hC
    subst hus
    obtain ⟨fn, h1, h2, h3⟩ := hfn
    refine .inr (.inr ⟨f, (c.args.toList.map a.eval ++ caps).toArray, ?_, hC.mono ?_⟩)
    · have hargs : (c.args.map a.eval) ++ List.toArray caps = (c.args.toList.map a.eval ++ caps).toArray := by
        apply Array.ext'
        simp
      simp only [execOp, ho, resolve, hc, hv, Deferred.ofValue, Sem.run_bind, Sem.run_pure, Result.andThen_ok, invoke, callFunc, run_program, h1]
      simp only [Array.empty_append, hargs, h2, h3, Bool.false_eq_true, if_false, Sem.run_pure]
    · rintro e w' ⟨he, hk⟩
      exact ⟨r, γ, he, hr, fun _ _ => rfl, hk.mono (fun _ _ h => h.elim), (fun _ h => by cases h), (fun _ h => by cases h), (fun _ h => by cases h)⟩
  unfold cloAct at h
  split at h
  · rename_i k D p u hl hu
    obtain ⟨hi0', hcl⟩ := hE.kn.clo _ _ hl
    have hi0 := hi0' rfl
    obtain ⟨_, hb2⟩ := R.base id hi0
    obtain ⟨f, caps, hfn, hv2, hcall⟩ := hcl
    rw [hb2, hv2] at hv
    split at h
    · rename_i x hx
      cases h
      refine fin hfn hv rfl rfl ?_
      have harg : c.args.toList.map a.eval = [valOf k x] := by
        match hq : c.args.toList, hu, hd with
        | [y], hu, hd =>
          simp only [List.map_cons, List.map_nil, List.cons.injEq, and_true] at hu
          rw [List.map_cons, List.map_nil]
          have h1 := hd.1
          rw [hu] at h1
          rw [decV_ok hx h1]
      rw [harg]
      exact hcall w ⟨R.kept.size, fun b hb hlt => R.kept.block b hlt (hE.kn.rc b hb).2⟩ x hps.1
    · cases h
  · rename_i k D p u z hl hu
    obtain ⟨hi0', hcl⟩ := hE.kn.clo _ _ hl
    have hi0 := hi0' rfl
    obtain ⟨_, hb2⟩ := R.base id hi0
    obtain ⟨f, hfn, hv2, hcall⟩ := hcl
    rw [hb2, hv2] at hv
    split at h
    · rename_i x y hx hy
      cases h
      refine fin (caps := []) hfn hv rfl rfl ?_
      have harg : c.args.toList.map a.eval = [valOf k x, valOf k y] := by
        match hq : c.args.toList, hu, hd with
        | [y1, y2], hu, hd =>
          simp only [List.map_cons, List.map_nil, List.cons.injEq, and_true] at hu
          rw [List.map_cons, List.map_cons, List.map_nil]
          have h1 := hd.1
          have h2 := hd.2.1
          rw [hu.1] at h1
          rw [hu.2] at h2
          rw [decV_ok hx h1, decV_ok hy h2]
      rw [harg]
      exact hcall w x y X.rc (hE.kn.tab.to fun b hb hlt => ⟨hb, Nat.lt_of_lt_of_le hlt R.kept.size, R.kept.block b hlt (hE.kn.rc b hb).2⟩) hps.1
    · cases h
  · cases h

/-- **Every operation.** -/
theorem act_ok (hE : EnvOk P E X) (R : Rel X st a w γ) (hs : ∀ i o, hr i = some o → st.hp i = some o) {o : Oper} {ps : List Prop} {v : SV} {us : List Up}
    (h : act E o.dst (ev st.fr) hr o.op = some (ps, v, us)) (hps : andL ps) (hok : okUps st.ids us = true) (hn : (us.map (·.id)).Nodup) : OpOk P o a st w γ v us := by
  cases ho : o.op with
  | move x => exact act_move R (.inl ho) h
  | assign x => exact act_move R (.inr ho) h
  | pick c x y => exact act_pick R ho h hps
  | alloc t => exact act_alloc hE R ho h hok
  | box t x => exact act_box hE R ho h hok
  | build t p => exact act_build hE R ho h
  | buildSlice t n p => exact act_buildSlice hE R ho h hok
  | makeSlice t l c => exact act_makeSlice hE R ho h hps hok
  | load t x => exact act_load hE R hs ho h hps
  | store t x y => exact act_store hE R hs ho h hps hok
  | binOp op t x y u => exact act_bin hE R ho h hps
  | unOp op t x =>
    cases op with
    | neg => exact act_neg R ho h hps
    | not => exact act_not R ho h
    | xor => rw [ho] at h; cases h
    | plus => rw [ho] at h; cases h
  | fieldAddr t x f => exact act_fieldAddr hE R ho h
  | indexAddr t x y => exact act_indexAddr hE R hs ho h hps
  | index t x y => exact act_index hE R ho h hps
  | slice t x lo hi mx =>
    cases mx with
    | none => exact act_slice hE R hs ho h hps
    | some m => rw [ho] at h; cases h
  | convert s t x => exact act_convert hE R hs ho h
  | extract x i => exact act_extract R ho h
  | nilCheck x => exact act_nilCheck R ho h
  | makeFunc fn first caps =>
    cases fn with
    | func f => exact act_makeFunc R ho h
    | method n => rw [ho] at h; cases h
    | methodOf t n => rw [ho] at h; cases h
    | via t p f q => rw [ho] at h; cases h
    | yield l => rw [ho] at h; cases h
  | call c =>
    have h0 := h
    rw [ho] at h0
    simp only [act] at h0
    cases hc : c.callee with
    | value g =>
      rw [hc] at h0
      simp only at h0
      split at h0
      · rename_i f caps hg
        exact act_callv hE R hs ho hc hg h0 hps hok hn
      · rename_i id hg
        exact act_callc hE R ho hc hg h0 hps
      · cases h0
    | invoke r n => rw [hc] at h0; cases h0
    | builtin b =>
      rw [hc] at h0
      cases b with
      | len =>
        simp only at h0
        split at h0
        · rename_i x t hx ht
          split at h0
          · rename_i ty hT
            split at h0
            · rename_i n hl
              cases h0
              obtain ⟨⟨l⟩, hl1⟩ : ∃ q, q = c.args := ⟨_, rfl⟩
              rw [← hl1] at hx
              match l, hx with
              | [y], hx =>
                simp at hx
                subst hx
                exact act_len hE R hs ho hc hl1.symm (by apply Array.ext'; simpa using ht) hT hl
            · cases h0
          · cases h0
        · cases h0
      | append =>
        simp only at h0
        split at h0
        · rename_i x y t u hx ht
          split at h0
          · rename_i htu
            obtain ⟨⟨l⟩, hl1⟩ : ∃ q, q = c.args := ⟨_, rfl⟩
            rw [← hl1] at hx
            match l, hx with
            | [y1, y2], hx =>
              simp at hx
              obtain ⟨rfl, rfl⟩ := hx
              exact act_append hE R hs ho hc hl1.symm (t := t) (u := u) (by apply Array.ext'; simpa using ht) (Nat.eq_of_beq_eq_true htu) h0 hps hok hn
          · cases h0
        · cases h0
      | clear =>
        simp only at h0
        split at h0
        · rename_i x t hx ht
          obtain ⟨⟨l⟩, hl1⟩ : ∃ q, q = c.args := ⟨_, rfl⟩
          rw [← hl1] at hx
          match l, hx with
          | [y], hx =>
            simp at hx
            subst hx
            exact act_clear hE R hs ho hc hl1.symm (by apply Array.ext'; simpa using ht) h0 hps
        · cases h0
      | max =>
        simp only at h0
        split at h0
        · rename_i p q hx
          cases h0
          obtain ⟨y1, y2, hl1, hx1⟩ : ∃ y1 y2, c.args = #[y1, y2] ∧ [ev st.fr y1, ev st.fr y2] = [.sc (.num .i64 p), .sc (.num .i64 q)] := by
            obtain ⟨⟨l⟩, hl1⟩ : ∃ q, q = c.args := ⟨_, rfl⟩
            rw [← hl1] at hx ⊢
            rcases l with _ | ⟨y1, _ | ⟨y2, _ | ⟨y3, l⟩⟩⟩
            · simp at hx
            · simp at hx
            · exact ⟨y1, y2, rfl, hx⟩
            · simp at hx
          · simp at hx1
            have hx := hx1
            have e1 := ev_ok R y1
            have e2 := ev_ok R y2
            rw [hx.1] at e1
            rw [hx.2] at e2
            refine act_pure (v' := .int .i64 (if p < q then q else p)) ?_ rfl
            simp [execOp, ho, resolve, hc, hl1, invoke, builtin, Builtin.max_, show a.eval y1 = _ from e1, show a.eval y2 = _ from e2, Builtin.max2]
        · cases h0
      | min =>
        simp only at h0
        split at h0
        · rename_i p q hx
          cases h0
          obtain ⟨y1, y2, hl1, hx1⟩ : ∃ y1 y2, c.args = #[y1, y2] ∧ [ev st.fr y1, ev st.fr y2] = [.sc (.num .i64 p), .sc (.num .i64 q)] := by
            obtain ⟨⟨l⟩, hl1⟩ : ∃ q, q = c.args := ⟨_, rfl⟩
            rw [← hl1] at hx ⊢
            rcases l with _ | ⟨y1, _ | ⟨y2, _ | ⟨y3, l⟩⟩⟩
            · simp at hx
            · simp at hx
            · exact ⟨y1, y2, rfl, hx⟩
            · simp at hx
          · simp at hx1
            have hx := hx1
            have e1 := ev_ok R y1
            have e2 := ev_ok R y2
            rw [hx.1] at e1
            rw [hx.2] at e2
            refine act_pure (v' := .int .i64 (if q < p then q else p)) ?_ rfl
            simp [execOp, ho, resolve, hc, hl1, invoke, builtin, Builtin.min_, show a.eval y1 = _ from e1, show a.eval y2 = _ from e2, Builtin.min2]
        · cases h0
      | _ => cases h0
  | _ => rw [ho] at h; cases h

/-- The operation in the model, and what goes on behind it. -/
theorem op_wp {o : Oper} {v : SV} {us : List Up} (h : OpOk P o a st w γ v us) {K : Act → World → Prop} {Q : Exit → Act → World → Prop}
    (hK : ∀ v' w' γ', StepOk st w γ v us v' w' γ' → K (a.put o.dst v') w') : o.wp P a w K Q := by
  unfold Oper.wp
  rcases h with ⟨v', w', γ', h1, h2⟩ | ⟨w', γ', h1, h2⟩ | ⟨f, args, h1, h2⟩
  · rw [h1]; exact hK _ _ _ h2
  · rw [h1]; exact hK _ _ _ h2
  · rw [h1]
    refine h2.mono ?_
    rintro e w' ⟨v', γ', rfl, hs⟩
    exact hK _ _ _ hs

end
end Go.Vx
