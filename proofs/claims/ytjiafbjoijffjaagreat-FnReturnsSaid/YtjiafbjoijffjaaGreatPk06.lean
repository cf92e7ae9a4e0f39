/- Every operation of the evaluator is the model's: calls; all of them together. -/
import Derived.Test.YtjiafbjoijffjaaGreatPk05
namespace Go.Vx
set_option linter.unusedSimpArgs false
set_option linter.unusedVariables false
open Go Go.RowKit

section
variable {P : Program} {E : Env} {X : Cx} {st : St} {a : Act} {w : World} {γ : Nat → Gh} {hr : Nat → Option Ob}

theorem obKind_ok (hs : ∀ i o, hr i = some o → st.hp i = some o) {id : Nat} {k : VK} (h : obKind hr id = some k) : ∃ xs : List k.ty, (∃ e, st.hp id = some (.row e k xs)) ∨ st.hp id = some (.view k xs) ∨ st.hp id = some (.part k xs) := by
  unfold obKind at h
  split at h
  · rename_i e k' xs hq
    cases h
    exact ⟨xs, .inl ⟨e, hs _ _ hq⟩⟩
  · rename_i k' xs hq
    cases h
    exact ⟨xs, .inr (.inl (hs _ _ hq))⟩
  · rename_i k' xs hq
    cases h
    exact ⟨xs, .inr (.inr (hs _ _ hq))⟩
  · cases h

theorem act_indexAddr (hE : EnvOk P E X) (R : Rel X st a w γ) (hs : ∀ i o, hr i = some o → st.hp i = some o) {o : Oper} {t : Nat} {x y : Operand} (ho : o.op = .indexAddr t x y) {ps : List Prop} {v : SV} {us : List Up}
    (h : act E o.dst (ev st.fr) hr o.op = some (ps, v, us)) (hps : andL ps) : OpOk P o a st w γ v us := by
  rw [ho] at h
  simp only [act] at h
  have hx := ev_ok R x
  have hy := ev_ok R y
  split at h
  · rename_i ty hT
    -- the run, by the slice's parts
    have go : ∀ {e : Nat} {k : VK} {kk : IntKind} {n : Int} {ad : Addr} {len c : Nat}, ty.elem = some (e, k) → a.eval y = .int kk n → a.eval x = .slice (some ad) len c → 0 ≤ n → n < len →
        (execOp a.eval o).run P w = .ok (.value (.pointer (some (ad.add (n.toNat * k.size))))) w := by
      intro e k kk n ad len c hel hy hx h0 h1
      obtain ⟨hu, te, hte, hsz⟩ := (hE.ty t ty hT).elem e k hel
      obtain ⟨ti, z, hti, htsz, _⟩ := (hE.ty e te hte).info
      simp [execOp, ho, Instr.indexAt, hx, hy, asIntOf, run_underlying hu, h0, h1, run_size hti, htsz, hsz]
    unfold indexAct at h
    split at h
    · rename_i id kk n h1 h2
      rw [h1] at hx
      rw [h2] at hy
      split at h
      · rename_i e k e' k' xs hel hq
        split at h
        · rename_i hkk
          cases h
          obtain ⟨hn0, hn1, _⟩ := hps
          have hkk := Nat.eq_of_beq_eq_true hkk
          obtain ⟨hsz, hn, hmx, hc⟩ := ob_list R (.inl ⟨e', hs _ _ hq⟩)
          obtain ⟨hi, hv⟩ := hx
          obtain ⟨ad, had, _⟩ := hc (by omega)
          rw [had, hn] at hv
          refine act_pure (go hel hy hv hn0 hn1) ⟨hi, ad, had, ?_⟩
          rw [hsz, hkk, Nat.add_zero]
        · cases h
      · cases h
    · rename_i id off len kk n h1 h2
      rw [h1] at hx
      rw [h2] at hy
      split at h
      · rename_i e k k' hel hq
        split at h
        · rename_i hkk
          cases h
          obtain ⟨hn0, hn1, _⟩ := hps
          have hkk := Nat.eq_of_beq_eq_true hkk
          obtain ⟨xs, hob⟩ := obKind_ok hs hq
          obtain ⟨hsz, hn, hmx, hc⟩ := ob_list R hob
          obtain ⟨hi, hbd, a', c, hv, hlc, ha⟩ := hx
          obtain ⟨ad, had, ha', hc0⟩ := ha (by omega)
          rw [ha'] at hv
          refine act_pure (go hel hy hv hn0 hn1) ⟨hi, ad, had, ?_⟩
          rw [Deep.add_add, hsz, hkk, Nat.add_zero, Nat.add_mul]
        · cases h
      · cases h
    · cases h
  · cases h

theorem bound_ok (R : Rel X st a w γ) {d : Nat} {lo : Option Operand} {l : Int} (h : bound d (lo.map (ev st.fr)) = some l) :
    (lo = none ∧ l = d) ∨ ∃ x k, lo = some x ∧ a.eval x = .int k l := by
  cases lo with
  | none => cases h; exact .inl ⟨rfl, rfl⟩
  | some x =>
    have hx := ev_ok R x
    simp only [Option.map_some, bound] at h
    split at h
    · rename_i e; cases e
    · rename_i k n e
      simp only [Option.some.injEq] at e
      rw [e] at hx
      cases h
      exact .inr ⟨x, k, rfl, hx⟩
    · cases h

theorem run_bounds {lo hi : Option Operand} {len cap : Nat} {b : Bool} {l h : Int} (hl : (lo = none ∧ l = ((0 : Nat) : Int)) ∨ ∃ x k, lo = some x ∧ a.eval x = .int k l) (hh : (hi = none ∧ h = len) ∨ ∃ x k, hi = some x ∧ a.eval x = .int k h)
    (h0 : 0 ≤ l) (h1 : l ≤ h) (h2 : h ≤ len) (h3 : len ≤ cap) :
    (Instr.sliceBounds b len cap (lo.map a.eval) (hi.map a.eval) none).run P w = .ok (l.toNat, h.toNat, cap) w := by
  have e1 : h.toNat = len → h = len := by omega
  rcases hh with ⟨rfl, rfl⟩ | ⟨y, ky, rfl, hy⟩
  · rcases hl with ⟨rfl, rfl⟩ | ⟨x, kx, rfl, hx⟩
    · simp [Instr.sliceBounds]
    · have c1 : l ≤ (len : Int) := h1
      simp [Instr.sliceBounds, Instr.sliceBound, hx, asIntOf, h0, c1]
  · have c0 : 0 ≤ h := by omega
    have c1 : h ≤ (cap : Int) := by omega
    rcases hl with ⟨rfl, rfl⟩ | ⟨x, kx, rfl, hx⟩
    · simp [Instr.sliceBounds, Instr.sliceBound, hy, asIntOf, c0, c1]
    · have c2 : (l ≤ (h.toNat : Int)) := by omega
      simp [Instr.sliceBounds, Instr.sliceBound, hx, hy, asIntOf, c0, c1, h0]
      intro hc
      omega

theorem addr_add0 (ad : Addr) : ad.add 0 = ad := by
  unfold Addr.add; cases ad with | mk b o p => cases p <;> simp
theorem slice_base {a' : Option Addr} {ad : Addr} {c c' l s : Nat} (h : a' = some ad) (hc : c = c') (h0 : l = 0) : (if c = l then a' else a'.map (·.add (l * s))) = some ad ∧ c - l = c' := by
  subst h0
  refine ⟨?_, by omega⟩
  split
  · exact h
  · rw [h, Option.map_some, Nat.zero_mul, addr_add0]
theorem act_slice (hE : EnvOk P E X) (R : Rel X st a w γ) (hs : ∀ i o, hr i = some o → st.hp i = some o) {o : Oper} {t : Nat} {x : Operand} {lo hi : Option Operand} (ho : o.op = .slice t x lo hi none) {ps : List Prop} {v : SV} {us : List Up}
    (h : act E o.dst (ev st.fr) hr o.op = some (ps, v, us)) (hps : andL ps) : OpOk P o a st w γ v us := by
  rw [ho] at h
  simp only [act] at h
  have hx := ev_ok R x
  split at h
  · rename_i ty hT
    -- the run, by the slice's parts
    have go : ∀ {e : Nat} {k : VK} {a' : Option Addr} {len c : Nat} {l h : Int}, ty.elem = some (e, k) → a.eval x = .slice a' len c → ((lo = none ∧ l = ((0 : Nat) : Int)) ∨ ∃ x k, lo = some x ∧ a.eval x = .int k l) →
        ((hi = none ∧ h = len) ∨ ∃ x k, hi = some x ∧ a.eval x = .int k h) → 0 ≤ l → l ≤ h → h ≤ len → len ≤ c →
        (execOp a.eval o).run P w = .ok (.value (.slice (if c = l.toNat then a' else a'.map (·.add (l.toNat * k.size))) (h.toNat - l.toNat) (c - l.toNat))) w := by
      intro e k a' len c l h hel hx hl hh h0 h1 h2 h3
      obtain ⟨hu, te, hte, hsz⟩ := (hE.ty t ty hT).elem e k hel
      obtain ⟨ti, z, hti, htsz, _⟩ := (hE.ty e te hte).info
      simp [execOp, ho, Instr.sliceAt, Instr.slice, hx, run_underlying hu, run_bounds (P := P) (w := w) hl hh h0 h1 h2 h3, run_size hti, htsz, hsz]
    unfold sliceAct at h
    split at h
    · rename_i id h1
      rw [h1] at hx
      split at h
      · rename_i e k e' k' xs hel hq
        split at h
        · rename_i l hh hkk hl hhh
          cases h
          obtain ⟨c0, c1, c2, _⟩ := hps
          have hkk := Nat.eq_of_beq_eq_true hkk
          obtain ⟨hsz, hn, hmx, hc⟩ := ob_list R (.inl ⟨e', hs _ _ hq⟩)
          obtain ⟨hi', hv⟩ := hx
          have hown := (R.ob _ _ (hs _ _ hq)).2.2
          have hcap : xs.length ≤ (γ id).c := by
            rcases hown.2 with ⟨hv0, hn0⟩ | ⟨g, cap, cur, hv1, hb, hg, hnc, _⟩
            · omega
            · injection hv1 with _ _ hca; omega
          rw [hn] at hv
          refine act_pure (go hel hv (bound_ok R hl) (bound_ok R hhh) c0 c1 c2 hcap) ⟨hi', by rw [hn]; omega, _, _, rfl, ⟨by omega, fun h0 ad had => slice_base had rfl h0⟩, fun hpos => ?_⟩
          obtain ⟨ad, had, _⟩ := hc (by omega)
          rw [if_neg (by omega), had]
          exact ⟨ad, rfl, by rw [hsz, hkk]; rfl, fun h => by omega⟩
        · cases h
      · cases h
    · rename_i id off len h1
      rw [h1] at hx
      split at h
      · rename_i e k k' hel hq
        split at h
        · rename_i l hh hkk hl hhh
          cases h
          obtain ⟨c0, c1, c2, _⟩ := hps
          have hkk := Nat.eq_of_beq_eq_true hkk
          obtain ⟨xs, hob⟩ := obKind_ok hs hq
          obtain ⟨hsz, hn, hmx, hc⟩ := ob_list R hob
          obtain ⟨hi', hbd, a', c, hv, hlc, ha⟩ := hx
          refine act_pure (go hel hv (bound_ok R hl) (bound_ok R hhh) c0 c1 c2 hlc.1) ⟨hi', by omega, _, _, rfl, ⟨by have := hlc.1; omega, fun h0 ad had => ?_⟩, fun hpos => ?_⟩
          · obtain ⟨g1, g2⟩ := hlc.2 (by omega) ad had
            exact slice_base g1 g2 (by omega)
          obtain ⟨ad, had, ha', hc0⟩ := ha (by omega)
          rw [if_neg (by omega), ha']
          refine ⟨ad, had, ?_, fun h => by have := hc0 (by omega); omega⟩
          simp only [Option.map_some]
          rw [Deep.add_add, ← hkk, ← hsz, ← Nat.add_mul]
        · cases h
      · cases h
    · rename_i s h1
      rw [h1] at hx
      split at h
      · rename_i l hh hk hl hhh
        cases h
        obtain ⟨c0, c1, c2, _⟩ := hps
        have hu := (hE.ty t ty hT).str hk
        refine act_pure (v' := .string (s.extract l.toNat hh.toNat)) ?_ rfl
        simp [execOp, ho, Instr.sliceAt, Instr.slice, show a.eval x = _ from hx, run_underlying hu, run_bounds (P := P) (w := w) (b := false) (bound_ok R hl) (bound_ok R hhh) c0 c1 c2 (Nat.le_refl _)]
      · cases h
    · cases h
  · cases h

/-! ### structs and slices that are written out -/

theorem fill_step (vs cells : List Value) (off : Nat) : off + vs.length ≤ cells.length →
    ((vs.zipIdx).foldl (fun (cs : Array Value) (p : Value × Nat) => cs.setIfInBounds (off + p.2) p.1) cells.toArray).toList = cells.take off ++ vs ++ cells.drop (off + vs.length) := by
  have gen : ∀ (vs : List Value) (i : Nat) (cells : List Value), off + i + vs.length ≤ cells.length →
      (((vs.zipIdx i)).foldl (fun (cs : Array Value) (p : Value × Nat) => cs.setIfInBounds (off + p.2) p.1) cells.toArray).toList = cells.take (off + i) ++ vs ++ cells.drop (off + i + vs.length) := by
    intro vs
    induction vs with
    | nil => intro i cells _; simp
    | cons v vs ih =>
      intro i cells h
      simp only [List.length_cons] at h
      simp only [List.zipIdx_cons, List.foldl_cons, List.setIfInBounds_toArray]
      rw [ih (i + 1) (cells.set (off + i) v) (by rw [List.length_set]; omega)]
      have h1 : (cells.set (off + i) v).take (off + (i + 1)) = cells.take (off + i) ++ [v] := by
        rw [← Nat.add_assoc, List.take_succ_eq_append_getElem (by rw [List.length_set]; omega)]
        simp [List.take_set_of_le]
      have h2 : (cells.set (off + i) v).drop (off + (i + 1) + vs.length) = cells.drop (off + i + (v :: vs).length) := by
        rw [List.drop_set_of_lt (by omega)]
        congr 1
        simp only [List.length_cons]
        omega
      rw [h1, h2]
      simp
  intro h
  have := gen vs 0 cells (by simpa using h)
  simpa using this

theorem run_places {fs : List Field} (h : ∀ f ∈ fs, ∃ j : TypeInfo, P.info? f.type = some j) : ∃ pl : List (Nat × Nat), (fs.mapM (fun f : Field => do pure (f.offset, ← sizeOf f.type) : Field → Sem (Nat × Nat))).run P w = .ok pl w ∧
    pl = fs.map fun f => (f.offset, ((P.info? f.type).map (·.size)).getD 0) := by
  induction fs with
  | nil => exact ⟨[], by simp, rfl⟩
  | cons f fs ih =>
    obtain ⟨j, hj⟩ := h f List.mem_cons_self
    obtain ⟨pl, h1, h2⟩ := ih fun g hg => h g (List.mem_cons_of_mem _ hg)
    refine ⟨(f.offset, j.size) :: pl, ?_, by simp [hj, h2]⟩
    simp only [List.mapM_cons, Sem.run_bind, run_size hj, Result.andThen_ok, Sem.run_pure, h1]

theorem act_build (hE : EnvOk P E X) (R : Rel X st a w γ) {o : Oper} {t : Nat} {parts : Array (Nat × Operand)} (ho : o.op = .build t parts) {ps : List Prop} {v : SV} {us : List Up}
    (h : act E o.dst (ev st.fr) hr o.op = some (ps, v, us)) : OpOk P o a st w γ v us := by
  rw [ho] at h
  simp only [act] at h
  split at h
  · rename_i ty hT
    split at h
    · rename_i o1 os pl hoffs hpl
      cases h
      obtain ⟨ti, z, hti, htsz, _, hz, hzd, hzl⟩ := (hE.ty t ty hT).info
      -- the parts, put in their places
      have key : ∀ {l : List (Nat × Operand)} {pl : List (Nat × List Sc)} {cells : List Value} {cs : List Sc} {place : Nat → Option (Nat × Nat)}, partsOf ty (ev st.fr) l = some pl → denL st.ids γ cs cells → cells.length = ty.size →
          (∀ i p, ty.offs[i]? = some p → place i = some p ∧ p.1 + p.2 ≤ ty.size) →
          ∃ out, Instr.fill place cells.toArray (l.map fun p => (p.1, a.eval p.2)) = some (List.toArray out) ∧ denL st.ids γ (setParts cs pl) out := by
        intro l
        induction l with
        | nil => intro pl cells cs place h hd _ _; cases h; exact ⟨cells, rfl, hd⟩
        | cons p r ih =>
          intro pl cells cs place h hd hl hp
          obtain ⟨i, x⟩ := p
          simp only [partsOf] at h
          split at h
          · rename_i off sz r' h1 h2
            split at h
            · rename_i hk
              cases h
              simp only [Bool.and_eq_true] at hk
              obtain ⟨hx1, hx2⟩ := known_cells hk.1 (ev_ok R x)
              have hlen := Nat.eq_of_beq_eq_true hk.2
              have hxl := denL_length hx1
              obtain ⟨hpl1, hpl2⟩ := hp i _ h1
              simp only at hpl2
              have hxs : (a.eval x).cells.size = sz := by simp at hxl; omega
              have hxs2 : (a.eval x).cells.toList.length = sz := by omega
              have hcl := denL_length hd
              have hstep := fill_step (a.eval x).cells.toList cells off (by omega)
              have hnew : (((a.eval x).cells.zipIdx).foldl (fun (cs : Array Value) (p : Value × Nat) => cs.setIfInBounds (off + p.2) p.1) cells.toArray) = List.toArray (cells.take off ++ (a.eval x).cells.toList ++ cells.drop (off + (a.eval x).cells.toList.length)) := by
                apply Array.ext'
                rw [← hstep, ← Array.foldl_toList, Array.toList_zipIdx]
              obtain ⟨out, ho1, ho2⟩ := ih (cells := cells.take off ++ (a.eval x).cells.toList ++ cells.drop (off + (a.eval x).cells.toList.length)) (place := place) h2 (denL_append (denL_append (denL_take off hd) hx1) (denL_drop _ hd))
                (by rw [List.length_append, List.length_append, List.length_take, List.length_drop]; omega) hp
              refine ⟨out, ?_, ?_⟩
              · simp only [List.map_cons, Instr.fill, hpl1]
                rw [if_neg (by simp [hxs]; omega)]
                rw [hnew]
                exact ho1
              · simp only [setParts]
                rw [hxl]
                exact ho2
            · cases h
          · cases h
      have hne : ty.offs ≠ [] := by rw [hoffs]; exact List.cons_ne_nil _ _
      obtain ⟨fs, hu, hfl, hfs⟩ := (hE.ty t ty hT).offs hne
      have hall : ∀ f ∈ fs.toList, ∃ j : TypeInfo, P.info? f.type = some j := by
        intro f hf
        obtain ⟨i, hi, hfi⟩ := List.getElem_of_mem hf
        have hi' : i < ty.offs.length := by rw [← hfl]; simpa using hi
        obtain ⟨fd, j, g1, g2, g3, _⟩ := hfs i (ty.offs[i]).1 (ty.offs[i]).2 (List.getElem?_eq_getElem hi')
        have : fs[i]? = some f := by
          rw [← hfi]
          simp at hi
          simp [hi]
        rw [this] at g1
        cases g1
        exact ⟨j, g3⟩
      obtain ⟨places, hp1, hp2⟩ := run_places (P := P) (w := w) hall
      have hzl' : z.cells.toList.length = ty.size := by rw [← denL_length hzd, hzl]
      obtain ⟨out, hf1, hf2⟩ := key (cells := z.cells.toList) (cs := ty.zero) (place := fun i => places[i]?) hpl (den_plain hzd) hzl' (by
        intro i p hp
        obtain ⟨off, sz⟩ := p
        obtain ⟨fd, j, g1, g2, g3, g4, g5, g6⟩ := hfs i off sz hp
        refine ⟨?_, g6⟩
        rw [hp2, List.getElem?_map]
        have : fs.toList[i]? = some fd := by simpa using g1
        rw [this]
        simp [g2, g3, g4])
      refine act_pure (v' := .agg (List.toArray out)) ?_ ⟨out, rfl, hf2⟩
      have hm : (fs.mapM (fun f : Field => do pure (f.offset, ← sizeOf f.type) : Field → Sem (Nat × Nat))).run P w = .ok (List.toArray places) w := by
        rw [Array.mapM_eq_mapM_toList]
        rw [show (Functor.map List.toArray (fs.toList.mapM (fun f : Field => do pure (f.offset, ← sizeOf f.type) : Field → Sem (Nat × Nat))) : Sem (Array (Nat × Nat))) = (do let l ← (fs.toList.mapM (fun f : Field => do pure (f.offset, ← sizeOf f.type) : Field → Sem (Nat × Nat))); pure l.toArray) from rfl]
        rw [Sem.run_bind, hp1]
        rfl
      have hfill : Instr.fill (fun i => (List.toArray places)[i]?) z.cells ((parts.map fun p => (p.1, a.eval p.2)).toList) = some (List.toArray out) := by
        simpa using hf1
      simp only [execOp, ho, Instr.build, Sem.run_bind, run_zero hti hz, Result.andThen_ok, run_underlying hu]
      rw [hm]
      simp only [Result.andThen_ok]
      rw [hfill]
      rfl
    · cases h
  · cases h
theorem act_buildSlice (hE : EnvOk P E X) (R : Rel X st a w γ) {o : Oper} {t n : Nat} {parts : Array (Nat × Operand)} (ho : o.op = .buildSlice t n parts) {ps : List Prop} {v : SV} {us : List Up}
    (h : act E o.dst (ev st.fr) hr o.op = some (ps, v, us)) (hok : okUps st.ids us = true) : OpOk P o a st w γ v us := by
  rw [ho] at h
  simp only [act] at h
  split at h
  · rename_i sz0 by0 ag0 ze0 of0 e k ki0 d hT hd
    split at h
    · rename_i els hels
      split at h
      · rename_i xs hk hdec
        cases h
        simp only [Bool.and_eq_true] at hk
        have hn1 := Nat.eq_of_beq_eq_true hk.1
        have hn2 := Nat.le_of_ble_eq_true hk.2
        obtain ⟨hu, te, hte, hsz⟩ := (hE.ty t _ hT).elem e k rfl
        obtain ⟨ti, z, hti, htsz, _, hz, hzd, hzl⟩ := (hE.ty e te hte).info
        have hn := new_fresh hok
        -- the elements, put in their places
        have key : ∀ {l : List (Nat × Operand)} {i : Nat} {els : List (List Sc)} {xs : List k.ty} {pre rest : List Value}, elemsOf (ev st.fr) i l = some els → decAll k els = some xs → pre.length = i * k.size → rest.length = els.length * k.size →
            Instr.fill (fun i => some (i * k.size, k.size)) (List.toArray (pre ++ rest)) (l.map fun p => (p.1, a.eval p.2)) = some (List.toArray (pre ++ flat k xs)) ∧ els.length = xs.length := by
          intro l
          induction l with
          | nil =>
            intro i els xs pre rest h1 h2 h3 h4
            cases h1
            cases h2
            have : rest = [] := List.eq_nil_of_length_eq_zero (by simpa using h4)
            subst this
            exact ⟨rfl, rfl⟩
          | cons p r ih =>
            intro i els xs pre rest h1 h2 h3 h4
            obtain ⟨i', x⟩ := p
            simp only [elemsOf] at h1
            split at h1
            · rename_i hi
              have hi := Nat.eq_of_beq_eq_true hi
              subst hi
              cases hq : elemsOf (ev st.fr) (i' + 1) r with
              | none => rw [hq] at h1; cases h1
              | some els' =>
                rw [hq] at h1
                simp only [Option.map_some, Option.some.injEq] at h1
                subst h1
                simp only [decAll] at h2
                split at h2
                · rename_i x' xs' g1 g2
                  cases h2
                  -- the element's cells
                  have hxc : (a.eval x).cells.toList = valCells k x' := by
                    have hx := ev_ok R x
                    generalize ev st.fr x = sv at hx g1
                    cases sv with
                    | sc s =>
                      have h0 := dec_den g1 (vs := [a.eval x]) ⟨hx, trivial⟩
                      rw [← h0]
                      have h1c := valCells_one k x' (a.eval x) (by rw [← h0]; exact List.mem_cons_self)
                      cases hv : a.eval x <;> first | rfl | (rw [hv] at h1c; cases h1c)
                    | ag cs =>
                      obtain ⟨vs, hv, hc⟩ := hx
                      have h0 := dec_den g1 hc
                      rw [hv, h0]
                      rfl
                    | tp xs =>
                      simp only [cellsS] at g1
                      cases k <;> cases g1
                  have hxl := valCells_length k x'
                  have hxs : (a.eval x).cells.size = k.size := by
                    have h3 : (a.eval x).cells.toList.length = k.size := by rw [hxc]; exact hxl
                    simpa using h3
                  have hr : k.size ≤ rest.length := by rw [h4, List.length_cons, Nat.add_mul]; omega
                  have hstep := fill_step (a.eval x).cells.toList (pre ++ rest) (i' * k.size) (by rw [List.length_append, hxc]; omega)
                  have hnew : (((a.eval x).cells.zipIdx).foldl (fun (cs : Array Value) (p : Value × Nat) => cs.setIfInBounds (i' * k.size + p.2) p.1) (List.toArray (pre ++ rest))) = List.toArray ((pre ++ valCells k x') ++ rest.drop k.size) := by
                    apply Array.ext'
                    rw [← Array.foldl_toList, Array.toList_zipIdx, hstep, hxc, ← h3, hxl]
                    simp [List.drop_append]
                  obtain ⟨q1, q2⟩ := ih (pre := pre ++ valCells k x') (rest := rest.drop k.size) hq g2 (by rw [List.length_append, hxl, h3, Nat.add_mul]; omega) (by rw [List.length_drop, h4, List.length_cons, Nat.add_mul]; omega)
                  refine ⟨?_, by simp [q2]⟩
                  simp only [List.map_cons, Instr.fill]
                  rw [if_neg (by simp [hxs, h3]; omega), hnew, q1]
                  simp [flat]
                · cases h2
            · cases h1
        have hlen0 : ((Array.range (n * k.size)).map (fun j => (if n * k.size = 0 then #[] else z.cells)[j % (if n * k.size = 0 then #[] else z.cells).size]!)).toList.length = els.length * k.size := by simp [hn1]
        obtain ⟨hf, hel⟩ := key (pre := []) (rest := ((Array.range (n * k.size)).map (fun j => (if n * k.size = 0 then #[] else z.cells)[j % (if n * k.size = 0 then #[] else z.cells).size]!)).toList) hels hdec (by simp) hlen0
        have hxn : xs.length = n := by omega
        have hfl := flat_length k xs
        have hpos := size_pos k
        have hmax : xs.length ≤ maxLen := by
          have := Nat.le_mul_of_pos_right n hpos
          unfold maxLen
          omega
        refine .inl ⟨.slice (some ⟨w.heap.size, 0, none⟩) n n, w.alloc (.cells (List.toArray (flat k xs)) e), upd γ d ⟨some ⟨w.heap.size, 0, none⟩, n, n, k.size, undef⟩, ?_, ?_⟩
        · have hbig : ¬ (n * k.size > 2 ^ 24) := by omega
          have hparts : (parts.map fun p => (p.1, a.eval p.2)).toList = parts.toList.map fun p => (p.1, a.eval p.2) := by simp
          by_cases h0 : n * k.size = 0
          · have hf' : Instr.fill (fun i => some (i * k.size, k.size)) ((Array.range (n * k.size)).map (fun j => (#[] : Array Value)[j % (#[] : Array Value).size]!)) (parts.toList.map fun p => (p.1, a.eval p.2)) = some (List.toArray (flat k xs)) := by
              rw [if_pos h0] at hf
              rw [List.nil_append, List.nil_append, Array.toArray_toList] at hf
              exact hf
            simp only [execOp, ho, Instr.buildSlice, Sem.run_bind, run_underlying hu, Result.andThen_ok, run_size hti, htsz, hsz]
            rw [if_neg hbig]
            simp only [Sem.run_bind, Sem.run_pure, Result.andThen_ok]
            rw [if_pos h0, hparts]
            simp only [Sem.run_bind, Sem.run_pure, Result.andThen_ok, hf']
            simp [newRow]
          · have hf' : Instr.fill (fun i => some (i * k.size, k.size)) ((Array.range (n * k.size)).map (fun j => z.cells[j % z.cells.size]!)) (parts.toList.map fun p => (p.1, a.eval p.2)) = some (List.toArray (flat k xs)) := by
              rw [if_neg h0] at hf
              rw [List.nil_append, List.nil_append, Array.toArray_toList] at hf
              exact hf
            simp only [execOp, ho, Instr.buildSlice, Sem.run_bind, run_underlying hu, Result.andThen_ok, run_size hti, htsz, hsz]
            rw [if_neg hbig]
            simp only [Sem.run_bind, Sem.run_pure, Result.andThen_ok]
            rw [if_neg h0, hparts]
            simp only [Sem.run_bind, Sem.run_pure, Result.andThen_ok, run_zero hti hz, hf']
            simp [newRow]
        · refine step_new R hn rfl _ _ ⟨new_id, by rw [upd_same]⟩ rfl ⟨by rw [upd_same], by rw [upd_same, hxn], ?_⟩
          rw [upd_same, hxn]
          refine ⟨by rw [hfl, hxn], .inr ⟨w.heap.size, n, _, rfl, Nat.zero_le _, heap_alloc_new w _, Nat.le_refl _, by omega, by simp [hfl, hxn], ?_⟩⟩
          simp [← hxn, ← hfl]
      · cases h
    · cases h
  · cases h

/-- append, with what is known of the blocks. -/
theorem run_append2 {t ty e : Nat} {i : TypeInfo} {z : Value} {size bytes : Nat} (ht : P.underlying t = some (.slice e)) (hi : P.info? e = some i) (hz : i.zero = some z)
    (hsize : i.size = size) (hby : i.bytes = bytes) (hzs : z.cells.size = size) (hsz : 0 < size)
    {v : Value} {n : Nat} {xs : List Value} (hown : w.ownsRow 0 e size v n xs)
    {a' : Option Addr} {m c : Nat} {news : List Value} (hl : news.length = m * size) (hnews : 0 < m → ∃ ad, a' = some ad ∧ ∀ j u, news[j]? = some u → w.cell? (ad.add j) = some u) (h1 : ∀ u ∈ news, u.oneCell' = true)
    (hbytes : (n + m) * bytes ≤ 140737488355328) (hmax : n + m ≤ maxLen) :
    ∃ v' w', (Builtin.append_ #[t, t] ty #[v, .slice a' m c]).run P w = .ok v' w' ∧ w'.ownsRow 0 e size v' (n + m) (xs ++ news) ∧ w.grownBy w' v.ownBlock ∧ (v'.ownBlock = v.ownBlock ∨ v'.ownBlock = some w.heap.size) := by
  subst hsize
  subst hby
  have hlen : (xs ++ news).length = (n + m) * i.size := by rw [List.length_append, hown.1, hl, Nat.add_mul]
  by_cases hm : m = 0
  · subst hm
    have hn : news = [] := List.eq_nil_of_length_eq_zero (by simpa using hl)
    subst hn
    refine ⟨v, w, ?_, by simpa using hown, World.grownBy.refl w _, .inl rfl⟩
    rcases hown.2 with ⟨rfl, rfl⟩ | ⟨g, cap, cur, rfl, _, _, hnc, _⟩
    · cases a' <;> simp [Builtin.append_, run_underlying ht, sizeOf, typeInfo, hi, Builtin.lenOf, Builtin.firstCells, loadCells, loadCellsFrom]
    · cases a' <;> simp [Builtin.append_, run_underlying ht, sizeOf, typeInfo, hi, Builtin.lenOf, Builtin.firstCells, hnc, storeCells, loadCells, loadCellsFrom]
  · obtain ⟨ad, rfl, hc⟩ := hnews (by omega)
    have grown : ∀ (old : Nat), old < n + m → ∀ (row : Option Nat),
        (w.drew.alloc (.cells (xs.toArray ++ news.toArray ++ Builtin.zeroCells z.cells (grownCap w (n + m) old e - (n + m))) e)).ownsRow 0 e i.size
          (.slice (some ⟨w.heap.size, 0, none⟩) (n + m) (grownCap w (n + m) old e)) (n + m) (xs ++ news) ∧
        w.grownBy (w.drew.alloc (.cells (xs.toArray ++ news.toArray ++ Builtin.zeroCells z.cells (grownCap w (n + m) old e - (n + m))) e)) row := by
      intro old ho row
      have hge := grownCap_ge w (n + m) old e
      have hcm : grownCap w (n + m) old e ≤ maxLen := grownCap_le_maxLen w (n + m) old e hmax
      refine ⟨⟨hlen, .inr ⟨w.heap.size, _, _, rfl, Nat.zero_le _, heap_alloc_new w.drew _, hge, hcm, ?_, ?_⟩⟩, ⟨rfl, rfl, rfl, by simp, fun k hk _ => Below.heap_alloc w.drew _ k hk⟩⟩
      · simp only [Array.size_append, List.size_toArray, size_zeroCells, hzs, hown.1, hl, ← Nat.add_mul]
        congr 1
        omega
      · simp only [Array.toList_append, List.append_assoc]
        rw [← List.append_assoc, ← hlen]
        exact List.take_left
    have hmax' : n + m ≤ 9223372036854775807 := by simp only [maxLen] at hmax; omega
    rcases hown.2 with ⟨rfl, rfl⟩ | ⟨g, cap, cur, rfl, hbg, hg, hnc, hcm, hcs, htake⟩
    · have hx : xs = [] := List.eq_nil_of_length_eq_zero (by simpa using hown.1)
      subst hx
      have hr := run_append_nil (P := P) w t ty e i z ht hi hz ad m c news hl hc (by omega) (by omega) (by have hb := hbytes; simp only [Nat.zero_add] at hb; omega)
      have hgr := grown 0 (by omega) (Value.ownBlock (.slice none 0 0))
      simp only [Nat.zero_add, List.nil_append, Array.empty_append] at hgr ⊢
      exact ⟨_, _, hr, hgr.1, hgr.2, .inr rfl⟩
    · by_cases hroom : n + m ≤ cap
      · have hfit : n * i.size + news.length ≤ cur.size := by rw [hl, hcs, ← Nat.add_mul]; exact Nat.mul_le_mul_right _ hroom
        have hr := run_append_room (P := P) w t ty e i ht hi g n cap cur hg ad m c news hl hc h1 hroom hfit
        refine ⟨_, _, hr, ⟨hlen, .inr ⟨g, cap, _, rfl, hbg, setRow_heap w g cur _ e _ hg, hroom, hcm, ?_, ?_⟩⟩, ⟨rfl, rfl, rfl, by simp, fun k _ hk => setRow_other w g k _ (fun e => hk (by simp [Value.ownBlock, e]))⟩, .inl rfl⟩
        · simp only [List.size_toArray, List.length_append, List.length_take, List.length_drop, Array.length_toList]
          omega
        · rw [htake, ← hlen]
          exact List.take_left
      · have holds : ∀ j u, xs[j]? = some u → w.cell? ((⟨g, 0, none⟩ : Addr).add j) = some u := hown.cells (g := g) rfl
        have hr := run_append_grow (P := P) w t ty e i z ht hi hz ⟨g, 0, none⟩ n cap xs hown.1 holds ad m c news hl hc (by omega) (by omega) (growslice_fits (by omega) hbytes)
        have hgr := grown cap (by omega) (Value.ownBlock (.slice (some ⟨g, 0, none⟩) n cap))
        exact ⟨_, _, hr, hgr.1, hgr.2, .inr rfl⟩
/-- A list's value, its cells. -/
theorem made_flat {k : VK} (x : k.ty) (z : Array Value) (hz : z.toList = valCells k x) (n : Nat) : (madeCells z (n * k.size)).toList = flat k (List.replicate n x) := by
  have hzs : z.size = k.size := by rw [← Array.length_toList, hz, valCells_length]
  have hpos := size_pos k
  apply List.ext_getElem?
  intro j
  by_cases hj : j < n * k.size
  · have hd := Nat.div_add_mod j k.size
    have hr : j % k.size < k.size := Nat.mod_lt _ hpos
    have hi : j / k.size < n := by rw [Nat.div_lt_iff_lt_mul hpos]; exact hj
    have e1 : j / k.size * k.size + j % k.size = j := by rw [Nat.mul_comm]; exact hd
    have hg := flat_get k (List.replicate n x) (j / k.size) (j % k.size) (by simpa using hi) hr
    rw [e1] at hg
    rw [hg]
    have e2 : (List.replicate n x).getD (j / k.size) k.dflt = x := by simp [List.getD, hi]
    rw [e2, ← hz]
    simp only [madeCells, Array.toList_map, List.getElem?_map, Array.toList_range, List.getElem?_range hj, Option.map_some, Array.getElem?_toList]
    rw [hzs, getElem!_pos z (j % k.size) (by omega), Array.getElem?_eq_getElem (by omega)]
  · rw [List.getElem?_eq_none (by simp [madeCells]; omega), List.getElem?_eq_none (by rw [flat_length]; simp; omega)]

theorem act_makeSlice (hE : EnvOk P E X) (R : Rel X st a w γ) {o : Oper} {t : Nat} {l c : Operand} (ho : o.op = .makeSlice t l c) {ps : List Prop} {v : SV} {us : List Up}
    (h : act E o.dst (ev st.fr) hr o.op = some (ps, v, us)) (hps : andL ps) (hok : okUps st.ids us = true) : OpOk P o a st w γ v us := by
  rw [ho] at h
  simp only [act] at h
  split at h
  · rename_i sz0 by0 ag0 ze0 of0 e k ki0 d kn n km m hT hd hl hc
    obtain ⟨hu, te', hte', hsz⟩ := (hE.ty t _ hT).elem e k rfl
    split at h
    · rename_i te hte
      rw [hte'] at hte
      cases hte
      split at h
      · rename_i z0 hb1 hz0
        cases h
        have hb1 := Nat.le_of_ble_eq_true hb1
        obtain ⟨h0, rfl, hb, _⟩ := hps
        obtain ⟨ti, z, hti, htsz, htby, hz, hzd, hzl⟩ := (hE.ty e te' hte').info
        have hz1 : z.cells.toList = valCells k z0 := dec_den hz0 (den_plain (ids := st.ids) (γ := γ) hzd)
        have hl := by have := ev_ok R l; rw [hl] at this; exact this
        have hc := by have := ev_ok R c; rw [hc] at this; exact this
        obtain ⟨N, rfl⟩ := Int.eq_ofNat_of_zero_le h0
        simp only [Int.toNat_natCast] at hb
        have hmx : N ≤ maxLen := by
          have := Nat.le_mul_of_pos_right N hb1
          unfold maxLen
          omega
        obtain ⟨w', q1, q2, q3⟩ := run_make_full (P := P) (w := w) 0 t e ti z k.size hu hti hz (htsz.trans hsz) kn km N (by rw [htby, Nat.mul_comm]; omega) hmx (Nat.zero_le _)
        rw [made_flat z0 z.cells hz1 N] at q2
        have hn := new_fresh hok
        refine .inl ⟨.slice (some ⟨w.heap.size, 0, none⟩) N N, w', upd γ d ⟨some ⟨w.heap.size, 0, none⟩, N, N, k.size, undef⟩, ?_, ?_⟩
        · simp only [execOp, ho, show a.eval l = _ from hl, show a.eval c = _ from hc, Sem.run_bind, q1, Result.andThen_ok, Sem.run_pure]
        · have hgd : upd γ d (⟨some ⟨w.heap.size, 0, none⟩, N, N, k.size, undef⟩ : Gh) d = ⟨some ⟨w.heap.size, 0, none⟩, N, N, k.size, undef⟩ := upd_same _ _ _
          refine ⟨⟨new_id, by rw [hgd]⟩, fun i hi => upd_ne _ _ (by rintro rfl; rw [hn] at hi; cases hi), (Kept.of_grown q3).mono (fun b _ hb => by simp at hb), ?_, ?_, ?_⟩
          · intro u hu p hp
            simp at hu
            subst hu
            cases hp
            refine ⟨⟨by rw [hgd], by rw [hgd]; simp, ?_⟩, rfl⟩
            rw [hgd]
            simpa using q2
          · intro u hu p b hp hbl
            simp at hu
            subst hu
            simp only [blk, hgd] at hbl
            simp at hbl
            exact .inl (by omega)
          · intro u hu u2 hu2 _ _ _ _ _ _ _
            simp at hu hu2
            rw [hu, hu2]
      · cases h
    · cases h
  · cases h

theorem list_cells (R : Rel X st a w γ) (hs : ∀ i o, hr i = some o → st.hp i = some o) {k : VK} {sv : SV} {xs : List k.ty} {v : Value} (h : listOf hr k sv = some xs) (hd : denV st.ids γ sv v) :
    ∃ a' c, v = .slice a' xs.length c ∧ xs.length ≤ maxLen ∧ (0 < xs.length → ∃ ad, a' = some ad ∧ ∀ j u, (flat k xs)[j]? = some u → w.cell? (ad.add j) = some u) := by
  obtain ⟨a', c, h1, _, h2, h3⟩ := listOf_ok R hs (rb := (idsSV sv).filterMap (blk γ)) h hd fun i hi o b _ hb => List.mem_filterMap.2 ⟨i, hi, hb⟩
  refine ⟨a', c, h1, h2, fun hp => ?_⟩
  obtain ⟨ad, q1, _, _, q2⟩ := h3 hp
  exact ⟨ad, q1, q2⟩

theorem act_append (hE : EnvOk P E X) (R : Rel X st a w γ) (hs : ∀ i o, hr i = some o → st.hp i = some o) {o : Oper} {c : Call} {t u : Nat} {x y : Operand} (ho : o.op = .call c) (hc : c.callee = .builtin .append) (hargs : c.args = #[x, y]) (ht : c.argTypes = #[t, u]) (htu : t = u)
    {ps : List Prop} {v : SV} {us : List Up}
    (h : appendAct E.T o.dst hr t (ev st.fr x) (ev st.fr y) = some (ps, v, us)) (hps : andL ps) (hok : okUps st.ids us = true) (hn : (us.map (·.id)).Nodup) : OpOk P o a st w γ v us := by
  subst htu
  have hx := ev_ok R x
  have hy := ev_ok R y
  unfold appendAct at h
  split at h
  · rename_i sz0 by0 ag0 ze0 of0 e k ki0 d hT hd
    obtain ⟨hu, te', hte', hsz⟩ := (hE.ty t _ hT).elem e k rfl
    split at h
    · rename_i te hte
      rw [hte'] at hte
      cases hte
      obtain ⟨ti, z, hti, htsz, htby, hz, hzd, hzl⟩ := (hE.ty e te' hte').info
      have hzs : z.cells.size = k.size := by
        have := denL_length hzd
        rw [hzl] at this
        simp at this
        omega
      have run : ∀ {r : Value} {w' : World}, (Builtin.append_ #[t, t] o.type #[a.eval x, a.eval y]).run P w = .ok r w' → (execOp a.eval o).run P w = .ok (.value r) w' := by
        intro r w' hr
        simp [execOp, ho, resolve, hc, hargs, ht, invoke, builtin, hr]
      split at h
      · rename_i ys hb1 hys
        have hb1 := Nat.le_of_ble_eq_true hb1
        obtain ⟨ya, yc, hyv, hymx, hycell⟩ := list_cells R hs hys hy
        have step : ∀ {v0 : Value} {n : Nat} {xs : List k.ty}, a.eval x = v0 → w.ownsRow 0 e k.size v0 n (flat k xs) → n = xs.length → (n + ys.length) * te'.bytes ≤ 140737488355328 →
            ∃ v' w', (execOp a.eval o).run P w = .ok (.value v') w' ∧ w'.ownsRow 0 e k.size v' (xs ++ ys).length (flat k (xs ++ ys)) ∧ w.grownBy w' v0.ownBlock ∧ (v'.ownBlock = v0.ownBlock ∨ v'.ownBlock = some w.heap.size) := by
          intro v0 n xs hv0 hown hn hb
          have hmx : n + ys.length ≤ maxLen := by
            have := Nat.le_mul_of_pos_right (n + ys.length) hb1
            unfold maxLen
            omega
          obtain ⟨v', w', q1, q2, q3, q4⟩ := run_append2 (P := P) (ty := o.type) hu hti hz (htsz.trans hsz) htby hzs (size_pos k) hown (c := yc) (flat_length k ys) hycell (flat_one k ys) hb hmx
          refine ⟨v', w', run (by rw [hv0, hyv]; exact q1), ?_, q3, q4⟩
          rw [flat_append, List.length_append, ← hn]
          exact q2
        split at h
        · rename_i hxe
          cases h
          rw [hxe] at hx
          obtain ⟨hb, _⟩ := hps
          obtain ⟨v', w', q1, q2, q3, q4⟩ := step (xs := []) (show a.eval x = _ from hx) (World.ownsRow_nil w 0 e k.size) rfl (by simpa using hb)
          simp only [List.nil_append] at q2
          have hnew := new_fresh hok
          obtain ⟨aa, cc, hv'⟩ := own_slice q2
          subst hv'
          refine .inl ⟨_, w', upd γ d ⟨aa, ys.length, cc, k.size, undef⟩, q1, ?_⟩
          have hgd : upd γ d (⟨aa, ys.length, cc, k.size, undef⟩ : Gh) d = ⟨aa, ys.length, cc, k.size, undef⟩ := upd_same _ _ _
          refine ⟨⟨new_id, by rw [hgd]⟩, fun i hi => upd_ne _ _ (by rintro rfl; rw [hnew] at hi; cases hi), (Kept.of_grown q3).mono (fun b _ hb => by simp [Value.ownBlock] at hb), ?_, ?_, ?_⟩
          · intro u hu p hp
            simp at hu
            subst hu
            cases hp
            exact ⟨⟨by rw [hgd], by rw [hgd], by rw [hgd]; exact q2⟩, rfl⟩
          · intro u hu p b hp hbl
            simp at hu
            subst hu
            simp only [blk, hgd] at hbl
            rcases q4 with q4 | q4
            · cases aa with
              | none => cases hbl
              | some ad => simp [Value.ownBlock] at q4
            · cases aa with
              | none => cases hbl
              | some ad =>
                simp [Value.ownBlock] at q4
                simp at hbl
                exact .inl (by omega)
          · intro u hu u2 hu2 _ _ _ _ _ _ _
            simp at hu hu2
            rw [hu, hu2]
        · rename_i id hxe
          rw [hxe] at hx
          split at h
          · rename_i e' k' xs0 hq
            split at h
            · rename_i xs he hcast
              cases h
              have he := Nat.eq_of_beq_eq_true he
              subst he
              obtain ⟨hf, hl, hk⟩ := castL_flat hcast
              subst hk
              obtain ⟨hb, _⟩ := hps
              obtain ⟨hid, hv⟩ := hx
              obtain ⟨hsz', hn', hown⟩ := R.ob _ _ (hs _ _ hq)
              rw [hf, hl] at hown
              obtain ⟨v', w', q1, q2, q3, q4⟩ := step hv hown rfl hb
              obtain ⟨aa, cc, hv'⟩ := own_slice q2
              subst hv'
              have hnew : st.ids d = false := (okUps_spec hok hn ⟨d, true, some (.row e' k' (xs ++ ys))⟩ (by simp)).1 rfl
              have hne : id ≠ d := by rintro rfl; rw [hnew] at hid; cases hid
              refine .inl ⟨_, w', upd γ d ⟨aa, (xs ++ ys).length, cc, k'.size, undef⟩, q1, ?_⟩
              have hgd : upd γ d (⟨aa, (xs ++ ys).length, cc, k'.size, undef⟩ : Gh) d = ⟨aa, (xs ++ ys).length, cc, k'.size, undef⟩ := upd_same _ _ _
              have hbid : ∀ b, (Value.slice (γ id).a (γ id).n (γ id).c).ownBlock = some b → blk γ id = some b := by
                intro b hb
                cases ha : (γ id).a with
                | none => rw [ha] at hb; cases hb
                | some ad => rw [ha] at hb; simpa [Value.ownBlock, blk, ha] using hb
              refine ⟨⟨updI_true.2 (.inr (by simp)), by rw [hgd]⟩, fun i hi => upd_ne _ _ (by rintro rfl; rw [hnew] at hi; cases hi), (Kept.of_grown q3).mono (fun b _ hb => ?_), ?_, ?_, ?_⟩
              · exact ⟨_, List.mem_cons_self, hbid b hb.symm, _, hs _ _ hq, rfl⟩
              · intro u hu p hp
                simp at hu
                rcases hu with rfl | rfl
                · cases hp
                · cases hp
                  exact ⟨⟨by rw [hgd], by rw [hgd], by rw [hgd]; exact q2⟩, rfl⟩
              · intro u hu p b hp hbl
                simp at hu
                rcases hu with rfl | rfl
                · cases hp
                · simp only [blk, hgd] at hbl
                  rcases q4 with q4 | q4
                  · refine .inr ⟨_, List.mem_cons_self, hbid b ?_, _, hs _ _ hq, rfl⟩
                    rw [← q4]
                    cases aa with
                    | none => cases hbl
                    | some ad => simpa [Value.ownBlock] using hbl
                  · cases aa with
                    | none => cases hbl
                    | some ad =>
                      simp [Value.ownBlock] at q4
                      simp at hbl
                      exact .inl (by omega)
              · intro u hu u2 hu2 p1 p2 _ hp1 hp2 _ _
                simp at hu hu2
                rcases hu with rfl | rfl
                · cases hp1
                · rcases hu2 with rfl | rfl
                  · cases hp2
                  · rfl
            · cases h
          · cases h
        · cases h
      · cases h
    · cases h
  · cases h

theorem run_len {x : Operand} {o : Oper} {c : Call} {t : Nat} (ho : o.op = .call c) (hc : c.callee = .builtin .len) (hargs : c.args = #[x]) (ht : c.argTypes = #[t]) {r : Value} {w' : World} (h : (Builtin.len_ #[t] o.type #[a.eval x]).run P w = .ok r w') :
    (execOp a.eval o).run P w = .ok (.value r) w' := by
  simp [execOp, ho, resolve, hc, hargs, ht, invoke, builtin, h]

theorem act_len (hE : EnvOk P E X) (R : Rel X st a w γ) (hs : ∀ i o, hr i = some o → st.hp i = some o) {o : Oper} {c : Call} {t : Nat} {x : Operand} (ho : o.op = .call c) (hc : c.callee = .builtin .len) (hargs : c.args = #[x]) (ht : c.argTypes = #[t])
    {ty : Ty} (hT : E.T t = some ty) {n : Nat} (h : lenOf ty hr (ev st.fr x) = some n) : OpOk P o a st w γ (.sc (.num .i64 n)) [] := by
  have hx := ev_ok R x
  have sl : ∀ {a' : Option Addr} {c' : Nat}, ty.elem.isSome = true → a.eval x = .slice a' n c' → OpOk P o a st w γ (.sc (.num .i64 n)) [] := by
    intro a' c' hel hv
    obtain ⟨⟨e, k⟩, hek⟩ := Option.isSome_iff_exists.1 hel
    obtain ⟨hu, _⟩ := (hE.ty t ty hT).elem e k hek
    refine act_pure (v' := .int .i64 n) (run_len ho hc hargs ht ?_) rfl
    simp [Builtin.len_, run_underlying hu, hv, goInt]
  unfold lenOf at h
  split at h
  · rename_i he
    rw [he] at hx
    split at h
    · rename_i hel
      cases h
      exact sl (by rw [hel]; rfl) hx
    · cases h
  · rename_i id he
    rw [he] at hx
    split at h
    · rename_i hel hq
      cases h
      obtain ⟨_, hv⟩ := hx
      obtain ⟨_, hn, _⟩ := R.ob _ _ (hs _ _ hq)
      rw [hn] at hv
      exact sl (by rw [hel]; rfl) hv
    · cases h
  · rename_i id off len he
    rw [he] at hx
    split at h
    · rename_i hel
      cases h
      obtain ⟨_, _, a', c', hv, _⟩ := hx
      exact sl (by rw [hel]; rfl) hv
    · cases h
  · rename_i s he
    rw [he] at hx
    split at h
    · rename_i hk
      cases h
      have hu := (hE.ty t ty hT).str hk
      refine act_pure (v' := .int .i64 s.size) (run_len ho hc hargs ht ?_) rfl
      simp [Builtin.len_, run_underlying hu, show a.eval x = _ from hx, goInt]
    · cases h
  · rename_i r he
    rw [he] at hx
    split at h
    · rename_i hel
      cases h
      obtain ⟨a', c', e⟩ := r.h
      exact sl (by rw [hel]; rfl) (Eq.trans hx e)
    · cases h
  · cases h

theorem act_field (hE : EnvOk P E X) (R : Rel X st a w γ) {o : Oper} {t f : Nat} {x : Operand} (ho : o.op = .field t x f) {ps : List Prop} {v : SV} {us : List Up}
    (h : act E o.dst (ev st.fr) hr o.op = some (ps, v, us)) : OpOk P o a st w γ v us := by
  rw [ho] at h
  simp only [act] at h
  cases h

theorem act_clear (hE : EnvOk P E X) (R : Rel X st a w γ) (hs : ∀ i o, hr i = some o → st.hp i = some o) {o : Oper} {c : Call} {x : Operand} {t : Nat} (ho : o.op = .call c) (hc : c.callee = .builtin .clear) (hargs : c.args = #[x]) (hts : c.argTypes = #[t]) {ps : List Prop} {v : SV} {us : List Up}
    (h : clearAct E.T hr t (ev st.fr x) = some (ps, v, us)) (hps : andL ps) : OpOk P o a st w γ v us := by
  have hx := ev_ok R x
  unfold clearAct at h
  split at h
  · rename_i ty hT
    split at h
    · rename_i e k id off len hel hx0
      rw [hx0] at hx
      split at h
      · rename_i e' k' xs te hq hte
        split at h
        · rename_i z0 hkk hz0
          cases h
          obtain ⟨h0, _⟩ := hps
          obtain ⟨hu, te', hte', hsz⟩ := (hE.ty t ty hT).elem e k hel
          rw [hte'] at hte
          cases hte
          obtain ⟨ti, z, hti, htsz, htby, hz, hzd, hzl⟩ := (hE.ty e te hte').info
          have hz1 : z.cells.toList = valCells k' z0 := dec_den hz0 (den_plain (ids := st.ids) (γ := γ) hzd)
          obtain ⟨hsz', hn', hown⟩ := R.ob _ _ (hs _ _ hq)
          obtain ⟨hi, hbd, a', c', hv, hlc, ha⟩ := hx
          obtain ⟨ad, had, ha', _⟩ := ha h0
          rcases hown.2 with ⟨hv0, hn0⟩ | ⟨g, cap, cur, hv1, hb, hg, hnc, hcm, hcs, htake⟩
          · omega
          · have hv2 := hv1
            injection hv1 with ha1 hna hca
            rw [ha1] at had
            cases had
            have hadd : (⟨g, 0, none⟩ : Addr).add (off * (γ id).sz) = ⟨g, off * k'.size, none⟩ := by rw [hsz']; unfold Addr.add; split <;> simp_all
            rw [hadd] at ha'
            subst ha'
            have hzs : z.cells.size = k'.size := by rw [← Array.length_toList, hz1, valCells_length]
            have hzc : (Builtin.zeroCells z.cells len).toList = flat k' (List.replicate len z0) := by
              rw [← made_flat z0 z.cells hz1 len]
              unfold Builtin.zeroCells madeCells
              rw [hzs]
            have hpos := size_pos k'
            have hnl : ((Builtin.zeroCells z.cells len).toList).length = len * k'.size := by rw [hzc, flat_length, List.length_replicate]
            have hcur : xs.length * k'.size ≤ cur.size := by rw [hcs]; exact Nat.mul_le_mul_right _ hnc
            have hbd' : off + len ≤ xs.length := by omega
            have hin : off * k'.size + len * k'.size ≤ xs.length * k'.size := by rw [← Nat.add_mul]; exact Nat.mul_le_mul_right _ hbd'
            have hst := run_storeCells_at (P := P) g (off * k'.size) e' (Builtin.zeroCells z.cells len).toList 0 cur w hg (by rw [hnl]; omega) (by rw [hzc]; exact flat_one _ _)
            have hml : (xs.take off ++ List.replicate len z0 ++ xs.drop (off + len)).length = xs.length := by
              simp only [List.length_append, List.length_take, List.length_replicate, List.length_drop]; omega
            have hflat : flat k' (xs.take off ++ List.replicate len z0 ++ xs.drop (off + len)) = (flat k' xs).take (off * k'.size) ++ (Builtin.zeroCells z.cells len).toList ++ (flat k' xs).drop (off * k'.size + len * k'.size) := by
              rw [flat_append, flat_append, flat_take, flat_drop, hzc, Nat.add_mul]
            refine .inl ⟨.tuple #[], _, γ, ?_, step_set_v R (hs _ _ hq) rfl rfl ha1 hg (cs' := (cur.toList.take (off * k'.size) ++ (Builtin.zeroCells z.cells len).toList ++ cur.toList.drop (off * k'.size + len * k'.size)).toArray) ?_ ⟨[], rfl, trivial⟩⟩
            · obtain ⟨m, rfl⟩ : ∃ m, len = m + 1 := ⟨len - 1, by omega⟩
              rw [hnl] at hst
              simp only [Nat.add_zero] at hst
              simp [execOp, ho, resolve, hc, hargs, hts, invoke, builtin, hv, Builtin.clear_, run_underlying hu, run_zero hti hz, hst]
            · refine ⟨hsz', by rw [hml]; exact hn', ?_⟩
              rw [hml, hv2]
              refine ⟨by rw [flat_length, hml], .inr ⟨g, cap, _, rfl, hb, setRow_heap w g cur _ e' _ hg, hnc, hcm, ?_, ?_⟩⟩
              · simp only [List.size_toArray, List.length_append, List.length_take, List.length_drop, Array.length_toList]
                simp at hnl
                omega
              · rw [hflat, ← htake]
                have := take_splice cur.toList (xs.length * k'.size) (off * k'.size) (Builtin.zeroCells z.cells len).toList (by rw [hnl]; exact hin) (by simpa using hcur)
                rw [hnl] at this
                exact this
        · cases h
      · cases h
    · cases h
  · cases h

end
end Go.Vx
namespace Go.Vx
set_option linter.unusedSimpArgs false
set_option linter.unusedVariables false
open Go Go.RowKit

section
variable {P : Program} {E : Env} {X : Cx} {st : St} {a : Act} {w : World} {γ : Nat → Gh} {hr : Nat → Option Ob}

theorem denVs_map (R : Rel X st a w γ) : ∀ (l : List Operand), denVs st.ids γ (l.map (ev st.fr)) (l.map a.eval)
  | [] => trivial
  | x :: r => ⟨ev_ok R x, denVs_map R r⟩

theorem act_callv (hE : EnvOk P E X) (R : Rel X st a w γ) (hs : ∀ i o, hr i = some o → st.hp i = some o) {o : Oper} {c : Call} {g : Operand} (ho : o.op = .call c) (hc : c.callee = .value g) {f : Nat} {caps : List (Nat × Nat)} (hf : ev st.fr g = .sc (.fn f caps))
    {ps : List Prop} {v : SV} {us : List Up} (h : callAct E.Γ E.C o.dst f hr (c.args.toList.map (ev st.fr) ++ caps.map fun p => .sc (.ref p.1 p.2)) = some (ps, v, us)) (hps : andL ps) (hok : okUps st.ids us = true) (hn : (us.map (·.id)).Nodup) : OpOk P o a st w γ v us := by
  have hg := ev_ok R g
  rw [hf] at hg
  obtain ⟨vs, hv, hcap⟩ := hg
  have hd := denVs_append (denVs_map R c.args.toList) (denVs_caps hcap)
  have hC := call_ok hE.kn R hs h hd hps hok hn
  have hfn : FnOk P f := by
    unfold callAct at h
    split at h
    · rename_i f' ks rs eff args' hfs _
      obtain ⟨hm, hff⟩ := findSig_mem hfs
      have := hE.kn.fn _ hm
      simp only at hff
      rw [hff] at this
      exact this
    · cases h
  obtain ⟨fn, h1, h2, h3⟩ := hfn
  refine .inr (.inr ⟨f, (c.args.toList.map a.eval ++ vs).toArray, ?_, hC⟩)
  have hargs : (c.args.map a.eval) ++ List.toArray vs = (c.args.toList.map a.eval ++ vs).toArray := by
    apply Array.ext'
    simp
  simp only [execOp, ho, resolve, hc, hv, Deferred.ofValue, Sem.run_bind, Sem.run_pure, Result.andThen_ok, invoke, callFunc, run_program, h1]
  simp only [Array.empty_append, hargs, h2, h3, Bool.false_eq_true, if_false, Sem.run_pure]

/-- a call of a function that has been handed in -/
theorem act_callc (hE : EnvOk P E X) (R : Rel X st a w γ) {o : Oper} {c : Call} {g : Operand} (ho : o.op = .call c) (hc : c.callee = .value g) {id : Nat} (hf : ev st.fr g = .sc (.clo id))
    {ps : List Prop} {v : SV} {us : List Up} (h : cloAct E.C id (c.args.toList.map (ev st.fr)) = some (ps, v, us)) (hps : andL ps) : OpOk P o a st w γ v us := by
  have hg := ev_ok R g
  rw [hf] at hg
  obtain ⟨_, hv⟩ := hg
  have hd := denVs_map R c.args.toList
  have fin : ∀ {f : Nat} {caps : List Value} {r : Value} , FnOk P f → a.eval g = .func (.func f) #[] caps.toArray → denV st.ids γ v r → us = [] →
      (Calls P f ((c.args.toList.map a.eval ++ caps).toArray) w fun e w' => e = .returned r ∧ Kept (fun _ => False) w w') → OpOk P o a st w γ v us := by
    intro f caps r hfn hv hr hus hC
    subst hus
    obtain ⟨fn, h1, h2, h3⟩ := hfn
    refine .inr (.inr ⟨f, (c.args.toList.map a.eval ++ caps).toArray, ?_, hC.mono ?_⟩)
    · have hargs : (c.args.map a.eval) ++ List.toArray caps = (c.args.toList.map a.eval ++ caps).toArray := by
        apply Array.ext'
        simp
      simp only [execOp, ho, resolve, hc, hv, Deferred.ofValue, Sem.run_bind, Sem.run_pure, Result.andThen_ok, invoke, callFunc, run_program, h1]
      simp only [Array.empty_append, hargs, h2, h3, Bool.false_eq_true, if_false, Sem.run_pure]
    · rintro e w' ⟨he, hk⟩
      exact ⟨r, γ, he, hr, fun _ _ => rfl, hk.mono (fun _ _ h => h.elim), (fun _ h => by cases h), (fun _ h => by cases h), (fun _ h => by cases h)⟩
  unfold cloAct at h
  split at h
  · rename_i k D p u hl hu
    obtain ⟨hi0', hcl⟩ := hE.kn.clo _ _ hl
    have hi0 := hi0' rfl
    obtain ⟨_, hb2⟩ := R.base id hi0
    obtain ⟨f, caps, hfn, hv2, hcall⟩ := hcl
    rw [hb2, hv2] at hv
    split at h
    · rename_i x hx
      cases h
      refine fin hfn hv rfl rfl ?_
      have harg : c.args.toList.map a.eval = [valOf k x] := by
        match hq : c.args.toList, hu, hd with
        | [y], hu, hd =>
          simp only [List.map_cons, List.map_nil, List.cons.injEq, and_true] at hu
          rw [List.map_cons, List.map_nil]
          have h1 := hd.1
          rw [hu] at h1
          rw [decV_ok hx h1]
      rw [harg]
      exact hcall w ⟨R.kept.size, fun b hb hlt => R.kept.block b hlt (hE.kn.rc b hb).2⟩ x hps.1
    · cases h
  · rename_i k D p u z hl hu
    obtain ⟨hi0', hcl⟩ := hE.kn.clo _ _ hl
    have hi0 := hi0' rfl
    obtain ⟨_, hb2⟩ := R.base id hi0
    obtain ⟨f, hfn, hv2, hcall⟩ := hcl
    rw [hb2, hv2] at hv
    split at h
    · rename_i x y hx hy
      cases h
      refine fin (caps := []) hfn hv rfl rfl ?_
      have harg : c.args.toList.map a.eval = [valOf k x, valOf k y] := by
        match hq : c.args.toList, hu, hd with
        | [y1, y2], hu, hd =>
          simp only [List.map_cons, List.map_nil, List.cons.injEq, and_true] at hu
          rw [List.map_cons, List.map_cons, List.map_nil]
          have h1 := hd.1
          have h2 := hd.2.1
          rw [hu.1] at h1
          rw [hu.2] at h2
          rw [decV_ok hx h1, decV_ok hy h2]
      rw [harg]
      exact hcall w x y X.rc (hE.kn.tab.to fun b hb hlt => ⟨hb, Nat.lt_of_lt_of_le hlt R.kept.size, R.kept.block b hlt (hE.kn.rc b hb).2⟩) hps.1
    · cases h
  · cases h

/-- **Every operation.** -/
theorem act_ok (hE : EnvOk P E X) (R : Rel X st a w γ) (hs : ∀ i o, hr i = some o → st.hp i = some o) {o : Oper} {ps : List Prop} {v : SV} {us : List Up}
    (h : act E o.dst (ev st.fr) hr o.op = some (ps, v, us)) (hps : andL ps) (hok : okUps st.ids us = true) (hn : (us.map (·.id)).Nodup) : OpOk P o a st w γ v us := by
  cases ho : o.op with
  | move x => exact act_move R (.inl ho) h
  | assign x => exact act_move R (.inr ho) h
  | pick c x y => exact act_pick R ho h hps
  | alloc t => exact act_alloc hE R ho h hok
  | box t x => exact act_box hE R ho h hok
  | build t p => exact act_build hE R ho h
  | buildSlice t n p => exact act_buildSlice hE R ho h hok
  | makeSlice t l c => exact act_makeSlice hE R ho h hps hok
  | load t x => exact act_load hE R hs ho h hps
  | store t x y => exact act_store hE R hs ho h hps hok
  | binOp op t x y u => exact act_bin hE R ho h hps
  | unOp op t x =>
    cases op with
    | neg => exact act_neg R ho h hps
    | not => exact act_not R ho h
    | xor => rw [ho] at h; cases h
    | plus => rw [ho] at h; cases h
  | fieldAddr t x f => exact act_fieldAddr hE R ho h
  | indexAddr t x y => exact act_indexAddr hE R hs ho h hps
  | index t x y => exact act_index hE R ho h hps
  | slice t x lo hi mx =>
    cases mx with
    | none => exact act_slice hE R hs ho h hps
    | some m => rw [ho] at h; cases h
  | convert s t x => exact act_convert hE R hs ho h
  | extract x i => exact act_extract R ho h
  | nilCheck x => exact act_nilCheck R ho h
  | makeFunc fn first caps =>
    cases fn with
    | func f => exact act_makeFunc R ho h
    | method n => rw [ho] at h; cases h
    | methodOf t n => rw [ho] at h; cases h
    | via t p f q => rw [ho] at h; cases h
    | yield l => rw [ho] at h; cases h
  | call c =>
    have h0 := h
    rw [ho] at h0
    simp only [act] at h0
    cases hc : c.callee with
    | value g =>
      rw [hc] at h0
      simp only at h0
      split at h0
      · rename_i f caps hg
        exact act_callv hE R hs ho hc hg h0 hps hok hn
      · rename_i id hg
        exact act_callc hE R ho hc hg h0 hps
      · cases h0
    | invoke r n => rw [hc] at h0; cases h0
    | builtin b =>
      rw [hc] at h0
      cases b with
      | len =>
        simp only at h0
        split at h0
        · rename_i x t hx ht
          split at h0
          · rename_i ty hT
            split at h0
            · rename_i n hl
              cases h0
              obtain ⟨⟨l⟩, hl1⟩ : ∃ q, q = c.args := ⟨_, rfl⟩
              rw [← hl1] at hx
              match l, hx with
              | [y], hx =>
                simp at hx
                subst hx
                exact act_len hE R hs ho hc hl1.symm (by apply Array.ext'; simpa using ht) hT hl
            · cases h0
          · cases h0
        · cases h0
      | append =>
        simp only at h0
        split at h0
        · rename_i x y t u hx ht
          split at h0
          · rename_i htu
            obtain ⟨⟨l⟩, hl1⟩ : ∃ q, q = c.args := ⟨_, rfl⟩
            rw [← hl1] at hx
            match l, hx with
            | [y1, y2], hx =>
              simp at hx
              obtain ⟨rfl, rfl⟩ := hx
              exact act_append hE R hs ho hc hl1.symm (t := t) (u := u) (by apply Array.ext'; simpa using ht) (Nat.eq_of_beq_eq_true htu) h0 hps hok hn
          · cases h0
        · cases h0
      | clear =>
        simp only at h0
        split at h0
        · rename_i x t hx ht
          obtain ⟨⟨l⟩, hl1⟩ : ∃ q, q = c.args := ⟨_, rfl⟩
          rw [← hl1] at hx
          match l, hx with
          | [y], hx =>
            simp at hx
            subst hx
            exact act_clear hE R hs ho hc hl1.symm (by apply Array.ext'; simpa using ht) h0 hps
        · cases h0
      | max =>
        simp only at h0
        split at h0
        · rename_i p q hx
          cases h0
          obtain ⟨y1, y2, hl1, hx1⟩ : ∃ y1 y2, c.args = #[y1, y2] ∧ [ev st.fr y1, ev st.fr y2] = [.sc (.num .i64 p), .sc (.num .i64 q)] := by
            obtain ⟨⟨l⟩, hl1⟩ : ∃ q, q = c.args := ⟨_, rfl⟩
            rw [← hl1] at hx ⊢
            rcases l with _ | ⟨y1, _ | ⟨y2, _ | ⟨y3, l⟩⟩⟩
            · simp at hx
            · simp at hx
            · exact ⟨y1, y2, rfl, hx⟩
            · simp at hx
          · simp at hx1
            have hx := hx1
            have e1 := ev_ok R y1
            have e2 := ev_ok R y2
            rw [hx.1] at e1
            rw [hx.2] at e2
            refine act_pure (v' := .int .i64 (if p < q then q else p)) ?_ rfl
            simp [execOp, ho, resolve, hc, hl1, invoke, builtin, Builtin.max_, show a.eval y1 = _ from e1, show a.eval y2 = _ from e2, Builtin.max2]
        · cases h0
      | min =>
        simp only at h0
        split at h0
        · rename_i p q hx
          cases h0
          obtain ⟨y1, y2, hl1, hx1⟩ : ∃ y1 y2, c.args = #[y1, y2] ∧ [ev st.fr y1, ev st.fr y2] = [.sc (.num .i64 p), .sc (.num .i64 q)] := by
            obtain ⟨⟨l⟩, hl1⟩ : ∃ q, q = c.args := ⟨_, rfl⟩
            rw [← hl1] at hx ⊢
            rcases l with _ | ⟨y1, _ | ⟨y2, _ | ⟨y3, l⟩⟩⟩
            · simp at hx
            · simp at hx
            · exact ⟨y1, y2, rfl, hx⟩
            · simp at hx
          · simp at hx1
            have hx := hx1
            have e1 := ev_ok R y1
            have e2 := ev_ok R y2
            rw [hx.1] at e1
            rw [hx.2] at e2
            refine act_pure (v' := .int .i64 (if q < p then q else p)) ?_ rfl
            simp [execOp, ho, resolve, hc, hl1, invoke, builtin, Builtin.min_, show a.eval y1 = _ from e1, show a.eval y2 = _ from e2, Builtin.min2]
        · cases h0
      | _ => cases h0
  | _ => rw [ho] at h; cases h

/-- The operation in the model, and what goes on behind it. -/
theorem op_wp {o : Oper} {v : SV} {us : List Up} (h : OpOk P o a st w γ v us) {K : Act → World → Prop} {Q : Exit → Act → World → Prop}
    (hK : ∀ v' w' γ', StepOk st w γ v us v' w' γ' → K (a.put o.dst v') w') : o.wp P a w K Q := by
  unfold Oper.wp
  rcases h with ⟨v', w', γ', h1, h2⟩ | ⟨w', γ', h1, h2⟩ | ⟨f, args, h1, h2⟩
  · rw [h1]; exact hK _ _ _ h2
  · rw [h1]; exact hK _ _ _ h2
  · rw [h1]
    refine h2.mono ?_
    rintro e w' ⟨v', γ', rfl, hs⟩
    exact hK _ _ _ hs

end
end Go.Vx
