/- A function keeps its contract when the evaluator says so. -/
import Derived.Test.YtjiafbjoijffjaaGreatPk08
namespace Go.Vx
set_option linter.unusedSimpArgs false
set_option linter.unusedVariables false
open Go Go.RowKit

section
variable {P : Program} {E : Env} {X : Cx} {st : St} {a : Act} {w : World} {γ : Nat → Gh}

/-! ### results -/

def rvF (tmps : Array Value) : ResultVar → Sem Value
  | .tmp t => pure (tmps.getD t undef)
  | .cell x t => do loadVar t (← asAddr (tmps.getD x undef))

theorem rvars_ok (hE : EnvOk P E X) (R : Rel X st a w γ) : ∀ (rv : List ResultVar) (svs : List SV), rvars E st rv = some svs →
    ∃ us, (rv.mapM (rvF a.tmps)).run P w = .ok us w ∧ denVs st.ids γ svs us
  | [], svs, h => by
    simp only [rvars, Option.some.injEq] at h
    subst h
    exact ⟨[], by simp, trivial⟩
  | r :: rv, svs, h => by
    simp only [rvars] at h
    split at h
    · rename_i v vs hv hvs
      cases h
      obtain ⟨us, h1, h2⟩ := rvars_ok hE R rv vs hvs
      have hr : ∃ u, (rvF a.tmps r).run P w = .ok u w ∧ denV st.ids γ v u := by
        cases r with
        | tmp t =>
          simp only [rvar, Option.some.injEq] at hv
          subst hv
          exact ⟨_, rfl, R.fr t⟩
        | cell x t =>
          simp only [rvar] at hv
          split at hv
          · rename_i ty t' cs hT hbox
            split at hv
            · rename_i hl
              cases hv
              have hl := Nat.eq_of_beq_eq_true hl
              obtain ⟨id, b, ws, hf, hhp, hga, hval, hheap, hden⟩ := boxOf_ok R (fun i o h => h) hbox (R.fr x)
              refine ⟨vval ty.agg ws, ?_, sval_ok hden⟩
              simp only [rvF, hval, asAddr, Sem.run_bind, Sem.run_pure, Result.andThen_ok]
              have hlen := denL_length hden
              refine run_loadVar_cells hE hT ⟨b, 0, none⟩ ws (by omega) ?_
              have := box_cells (off := 0) (n := ws.length) hheap
              have h0 : (⟨b, 0, none⟩ : Addr).add 0 = ⟨b, 0, none⟩ := by unfold Addr.add; rfl
              rw [h0] at this
              simpa using this
            · cases hv
          · cases hv
      obtain ⟨u, h3, h4⟩ := hr
      refine ⟨u :: us, ?_, h4, h2⟩
      simp only [List.mapM_cons, Sem.run_bind, h3, Result.andThen_ok, h1, Sem.run_pure]
    · cases h

theorem results_ok (hE : EnvOk P E X) (R : Rel X st a w γ) {fn : Func} {svs : List SV} (h : rvars E st fn.results.toList = some svs) :
    ∃ us, (results fn a.tmps).run P w = .ok (packV us) w ∧ denVs st.ids γ svs us := by
  obtain ⟨us, h1, h2⟩ := rvars_ok hE R _ _ h
  refine ⟨us, ?_, h2⟩
  have hf : results fn a.tmps = (do let vs ← fn.results.mapM (rvF a.tmps); pure (if h : vs.size = 1 then vs[0] else .tuple vs)) := by unfold results rvF; rfl
  have hm : fn.results.mapM (rvF a.tmps) = Functor.map List.toArray (fn.results.toList.mapM (rvF a.tmps)) := by
    rw [← List.mapM_toArray]
  rw [hf, hm]
  simp only [Sem.run_bind, Sem.run_map, h1, Result.andThen_ok, Sem.run_pure]
  match us with
  | [] => rfl
  | [v] => rfl
  | u :: v :: r => rw [dif_neg (by simp)]; rfl

theorem partB_ok {id : Nat} (h : partB st.hp id = true) : ∀ i ∈ [id], ∃ o, st.hp i = some o ∧ o.wr = true ∧ ∀ t cs, o ≠ .box t cs := by
  intro i hi
  simp at hi
  subst hi
  unfold partB at h
  split at h
  · rename_i h1
    exact ⟨_, h1, rfl, fun _ _ h => by cases h⟩
  · rename_i h1
    exact ⟨_, h1, rfl, fun _ _ h => by cases h⟩
  · cases h

theorem resIs_ok (R : Rel X st a w γ) {r : RK} {v : SV} {x : r.ty} {K : List Nat → Prop} {u : Value} (h : resIs st r v x K) (hd : denV st.ids γ v u) :
    ∃ l, K l ∧ (∀ i ∈ l, ∃ o, st.hp i = some o ∧ o.wr = true ∧ ∀ t cs, o ≠ .box t cs) ∧
      ∀ {rs : List RK} {y : RKs rs} {us : List Value} {l' : List Nat}, RessOk w rs y us l' → RessOk w (r :: rs) (x, y) (u :: us) (l.filterMap (blk γ) ++ l') := by
  have ow : ∀ {e e' : Nat} {k k' : VK} {id : Nat} {ys : List k'.ty} {xs zs : List k.ty} {u : Value}, st.hp id = some (.row e' k' ys) → Nat.beq e' e = true → VK.castL k' k ys = some zs → zs = xs → den st.ids γ (.own id) u →
      w.ownsRow 0 e k.size u xs.length (flat k xs) ∧ u.ownBlock.toList = [id].filterMap (blk γ) := by
    intro e e' k k' id ys xs zs u hh he hc hz hd
    have he := Nat.eq_of_beq_eq_true he
    subst he; subst hz
    obtain ⟨hf, hl, hk⟩ := castL_flat hc
    subst hk
    obtain ⟨_, hv⟩ := hd
    obtain ⟨hsz, hn, ho⟩ := R.ob _ _ hh
    rw [← hv, hf, hl] at ho
    refine ⟨ho, ?_⟩
    rw [hv]
    cases ha : (γ id).a <;> simp [blk, ha, Value.ownBlock]
  unfold resIs at h
  split at h
  · exact ⟨[], h, (fun _ h => by cases h), fun hr => hr⟩
  · rename_i k v x
    split at h
    · rename_i y hy
      obtain ⟨rfl, hK⟩ := h
      exact ⟨[], hK, (fun _ h => by cases h), fun hr => ⟨decV_ok hy hd, hr⟩⟩
    · exact h.elim
  · rename_i e k xs
    obtain ⟨rfl, hK⟩ := h
    have hu : u = .slice none 0 0 := hd
    subst hu
    exact ⟨[], hK, (fun _ h => by cases h), fun hr => ⟨_, World.ownsRow_nil _ _ _ _, rfl, hr⟩⟩
  · rename_i e k id xs
    split at h
    · rename_i e' k' ys hh
      split at h
      · rename_i zs he hc
        obtain ⟨hz, hK⟩ := h
        obtain ⟨q1, q2⟩ := ow hh he hc hz hd
        refine ⟨[id], hK, ?_, fun hr => ⟨_, q1, by rw [q2], hr⟩⟩
        intro i hi
        simp at hi
        subst hi
        exact ⟨_, hh, rfl, fun _ _ h => by cases h⟩
      · exact h.elim
    · exact h.elim
  · rename_i e k id off len xs
    split at h
    · rename_i e' k' ys hh h0
      split at h
      · rename_i zs he hc
        obtain ⟨hl, hz, hK⟩ := h
        have h0 := Nat.eq_of_beq_eq_true h0
        subst h0
        have he := Nat.eq_of_beq_eq_true he
        subst he
        subst hz
        obtain ⟨hf, hlen, hk⟩ := castL_flat hc
        subst hk
        obtain ⟨hi, hbd, a', c, hv, hlc, ha⟩ := hd
        obtain ⟨hsz, hn, ho⟩ := R.ob _ _ hh
        have hlc1 := hlc.1
        rcases ho.2 with ⟨_, hn0⟩ | ⟨g, cap, cur, hv1, hb, hg, hnc, hcm, hcs, htake⟩
        · omega
        · injection hv1 with ha1 hna hca
          obtain ⟨ha', hc0⟩ := hlc.2 rfl _ ha1
          subst ha'
          have hle : len ≤ zs.length := by omega
          have hle2 : len ≤ ys.length := by omega
          have hm : (zs.take len).length = len := by rw [List.length_take]; omega
          refine ⟨[id], hK, ?_, fun hr => ⟨_, ?_, ?_, hr⟩⟩
          · intro i hi
            simp at hi
            subst hi
            exact ⟨_, hh, rfl, fun _ _ h => by cases h⟩
          · rw [hv, hm]
            refine ⟨by rw [flat_length, hm], .inr ⟨g, cap, cur, by rw [hc0, hca], hb, hg, by omega, hcm, hcs, ?_⟩⟩
            rw [flat_take, ← hf, ← htake, List.take_take, Nat.min_eq_left (Nat.mul_le_mul_right _ hle2)]
          · rw [hv]
            simp [blk, ha1, Value.ownBlock]
      · exact h.elim
    · exact h.elim
  · rename_i k xs
    obtain ⟨rfl, hK⟩ := h
    have hu : u = .slice none 0 0 := hd
    subst hu
    exact ⟨[], hK, (fun _ h => by cases h), fun hr => ⟨[], _, ⟨none, 0, rfl, Nat.le_refl _, Nat.zero_le _, fun h => by cases h⟩, rfl, hr⟩⟩
  · rename_i k id xs
    split at h
    · rename_i ys hb hl
      obtain ⟨rfl, hK⟩ := h
      have hl2 := listOf_ok (rb := [id].filterMap (blk γ)) R (fun _ _ h => h) hl hd (fun i hi o b ho hbk => by
        simp only [idsSV, idsSc, List.mem_singleton] at hi
        subst hi
        simp [hbk])
      refine ⟨[id], hK, partB_ok hb, fun hr => ⟨_, _, hl2, rfl, hr⟩⟩
    · exact h.elim
  · rename_i k id off len xs
    split at h
    · rename_i ys hb hl
      obtain ⟨rfl, hK⟩ := h
      have hl2 := listOf_ok (rb := [id].filterMap (blk γ)) R (fun _ _ h => h) hl hd (fun i hi o b ho hbk => by
        simp only [idsSV, idsSc, List.mem_singleton] at hi
        subst hi
        simp [hbk])
      refine ⟨[id], hK, partB_ok hb, fun hr => ⟨_, _, hl2, rfl, hr⟩⟩
    · exact h.elim
  · rename_i e k xs
    obtain ⟨rfl, hK⟩ := h
    obtain ⟨vs, hu, hc⟩ := hd
    match vs, hc with
    | [s], hc =>
      have hs : s = .slice none 0 0 := hc.1
      subst hs
      exact ⟨[], hK, (fun _ h => by cases h), fun hr => ⟨_, _, hu, World.ownsRow_nil _ _ _ _, rfl, hr⟩⟩
  · rename_i e k id xs
    obtain ⟨vs, hu, hcs⟩ := hd
    match vs, hcs with
    | [s], hcs =>
      split at h
      · rename_i e' k' ys hh
        split at h
        · rename_i zs he hc
          obtain ⟨hz, hK⟩ := h
          obtain ⟨q1, q2⟩ := ow hh he hc hz hcs.1
          refine ⟨[id], hK, ?_, fun hr => ⟨_, _, hu, q1, by rw [q2], hr⟩⟩
          intro i hi
          simp at hi
          subst hi
          exact ⟨_, hh, rfl, fun _ _ h => by cases h⟩
        · exact h.elim
      · exact h.elim
  · exact h.elim

theorem ressAre_ok (R : Rel X st a w γ) : ∀ {rs : List RK} {vs : List SV} {res : RKs rs} {K : List Nat → Prop} {us : List Value}, ressAre st rs vs res K → denVs st.ids γ vs us →
    ∃ l, K l ∧ (∀ i ∈ l, ∃ o, st.hp i = some o ∧ o.wr = true ∧ ∀ t cs, o ≠ .box t cs) ∧ RessOk w rs res us (l.filterMap (blk γ))
  | [], [], res, K, [], h, _ => ⟨[], h, (fun _ h => by cases h), rfl⟩
  | [], [], _, _, _ :: _, _, hd => hd.elim
  | r :: rs, v :: vs, (x, y), K, u :: us, h, hd => by
    simp only [ressAre] at h
    obtain ⟨l, h1, h2, h3⟩ := resIs_ok R h hd.1
    obtain ⟨l', h4, h5, h6⟩ := ressAre_ok R h1 hd.2
    refine ⟨l ++ l', h4, ?_, ?_⟩
    · intro i hi
      rcases List.mem_append.1 hi with hi | hi
      · exact h2 i hi
      · exact h5 i hi
    · rw [List.filterMap_append]
      exact h3 h6
  | _ :: _, _ :: _, _, _, [], _, hd => hd.elim
  | [], _ :: _, _, _, _, h, _ => h.elim
  | _ :: _, [], _, _, _, h, _ => h.elim

/-- Where the cells and the rows lie that were handed in. -/
def cellsAt (γ : Nat → Gh) : Nat → List AK → List Value → List Nat → Prop
  | _, [], _, cb => cb = []
  | i, .cell _ _ :: ks, _ :: vs, b :: cb => (γ (100000 + i)).a = some ⟨b, 0, none⟩ ∧ cellsAt γ (i + 1) ks vs cb
  | _, .cell _ _ :: _, _ :: _, [] => False
  | i, .mrow _ _ :: ks, v :: vs, cb => ∃ c2, v = .slice (γ (100000 + i)).a (γ (100000 + i)).n (γ (100000 + i)).c ∧ cb = v.ownBlock.toList ++ c2 ∧ cellsAt γ (i + 1) ks vs c2
  | i, .mlift _ _ :: ks, v :: vs, cb => ∃ u c2, v = .agg #[u] ∧ u = .slice (γ (100000 + i)).a (γ (100000 + i)).n (γ (100000 + i)).c ∧ cb = u.ownBlock.toList ++ c2 ∧ cellsAt γ (i + 1) ks vs c2
  | i, .val _ :: ks, _ :: vs, cb => cellsAt γ (i + 1) ks vs cb
  | i, .list _ :: ks, _ :: vs, cb => cellsAt γ (i + 1) ks vs cb
  | i, .lift _ :: ks, _ :: vs, cb => cellsAt γ (i + 1) ks vs cb
  | i, .lcell _ _ :: ks, _ :: vs, cb => cellsAt γ (i + 1) ks vs cb
  | i, .own _ _ :: ks, _ :: vs, cb => cellsAt γ (i + 1) ks vs cb
  | i, .clo _ :: ks, _ :: vs, cb => cellsAt γ (i + 1) ks vs cb
  | i, .cmp _ :: ks, _ :: vs, cb => cellsAt γ (i + 1) ks vs cb
  | _, _ :: _, [], _ => False

theorem outsAre_ok (R : Rel X st a w γ) : ∀ {ks : List AK} {i : Nat} {vs : List Value} {o : AKo ks} {cb : List Nat}, outsAre i st ks o → cellsAt γ i ks vs cb →
    OutsOk w ks vs o cb ∧ ∀ b ∈ cb, ∃ j p, st.hp j = some p ∧ p.wr = true ∧ blk γ j = some b ∧ ((∃ t cs, p = .box t cs) ∨ j ∈ mIds i ks)
  | [], _, _, _, cb, _, h => by
    have : cb = [] := h
    subst this
    exact ⟨trivial, fun _ h => by cases h⟩
  | .cell t k :: ks, i, v :: vs, (o, o'), b :: cb, h, hc => by
    obtain ⟨h1, h2⟩ := h
    obtain ⟨c1, c2⟩ := hc
    obtain ⟨q1, q2⟩ := outsAre_ok R h2 c2
    split at h1
    · rename_i t' cs hh
      split at h1
      · rename_i y ht hy
        have ht := Nat.eq_of_beq_eq_true ht
        subst ht
        have h1 := h1.out
        subst h1
        obtain ⟨b', vs', ha, hheap, hden⟩ := R.ob _ _ hh
        rw [ha] at c1
        cases c1
        have := dec_den hy hden
        subst this
        refine ⟨⟨hheap, q1⟩, fun x hx => ?_⟩
        rcases List.mem_cons.1 hx with rfl | hx
        · exact ⟨_, _, hh, rfl, sub_blk ha, .inl ⟨_, _, rfl⟩⟩
        · exact q2 x hx
      · exact h1.elim
    · exact h1.elim
  | .mrow e k :: ks, i, v :: vs, (o, o'), cb, h, hc => by
    obtain ⟨h1, h2⟩ := h
    obtain ⟨c2, hv, hcb, hc2⟩ := hc
    obtain ⟨q1, q2⟩ := outsAre_ok R h2 hc2
    split at h1
    · rename_i e' k' xs hh
      split at h1
      · rename_i y he hy
        have he := Nat.eq_of_beq_eq_true he
        subst he
        have h1 := h1.out
        subst h1
        obtain ⟨hf, hl, hk⟩ := castL_flat hy
        subst hk
        obtain ⟨hsz, hn, ho⟩ := R.ob _ _ hh
        refine ⟨⟨c2, hcb, ?_, q1⟩, fun x hx => ?_⟩
        · rw [hv, ← hf, ← hl]
          exact ho
        · rw [hcb] at hx
          rcases List.mem_append.1 hx with hx | hx
          · refine ⟨100000 + i, _, hh, rfl, ?_, .inr List.mem_cons_self⟩
            rw [hv] at hx
            cases ha : (γ (100000 + i)).a with
            | none => rw [ha] at hx; simp [Value.ownBlock] at hx
            | some ad => rw [ha] at hx; simp [Value.ownBlock] at hx; rw [sub_blk ha, hx]
          · obtain ⟨j, p, r1, r2, r3, r4⟩ := q2 x hx
            exact ⟨j, p, r1, r2, r3, r4.imp id fun h => List.mem_cons_of_mem _ h⟩
      · exact h1.elim
    · exact h1.elim
  | .mlift e k :: ks, i, v :: vs, (o, o'), cb, h, hc => by
    obtain ⟨h1, h2⟩ := h
    obtain ⟨u, c2, hv0, hv, hcb, hc2⟩ := hc
    obtain ⟨q1, q2⟩ := outsAre_ok R h2 hc2
    split at h1
    · rename_i e' k' xs hh
      split at h1
      · rename_i y he hy
        have he := Nat.eq_of_beq_eq_true he
        subst he
        have h1 := h1.out
        subst h1
        obtain ⟨hf, hl, hk⟩ := castL_flat hy
        subst hk
        obtain ⟨hsz, hn, ho⟩ := R.ob _ _ hh
        refine ⟨⟨u, c2, hv0, hcb, ?_, q1⟩, fun x hx => ?_⟩
        · rw [hv, ← hf, ← hl]
          exact ho
        · rw [hcb] at hx
          rcases List.mem_append.1 hx with hx | hx
          · refine ⟨100000 + i, _, hh, rfl, ?_, .inr List.mem_cons_self⟩
            rw [hv] at hx
            cases ha : (γ (100000 + i)).a with
            | none => rw [ha] at hx; simp [Value.ownBlock] at hx
            | some ad => rw [ha] at hx; simp [Value.ownBlock] at hx; rw [sub_blk ha, hx]
          · obtain ⟨j, p, r1, r2, r3, r4⟩ := q2 x hx
            exact ⟨j, p, r1, r2, r3, r4.imp id fun h => List.mem_cons_of_mem _ h⟩
      · exact h1.elim
    · exact h1.elim
  | .cell _ _ :: _, _, _ :: _, _, [], _, h => h.elim
  | k :: ks, i, [], o, cb, _, h => by cases k <;> exact h.elim
  | .val _ :: ks, i, _ :: vs, o, cb, h, hc => outsAre_ok (ks := ks) (vs := vs) R h hc
  | .list _ :: ks, i, _ :: vs, o, cb, h, hc => outsAre_ok (ks := ks) (vs := vs) R h hc
  | .lift _ :: ks, i, _ :: vs, o, cb, h, hc => outsAre_ok (ks := ks) (vs := vs) R h hc
  | .lcell _ _ :: ks, i, _ :: vs, o, cb, h, hc => outsAre_ok (ks := ks) (vs := vs) R h hc
  | .own _ _ :: ks, i, _ :: vs, o, cb, h, hc => outsAre_ok (ks := ks) (vs := vs) R h hc
  | .clo _ :: ks, i, _ :: vs, o, cb, h, hc => outsAre_ok (ks := ks) (vs := vs) R h hc
  | .cmp _ :: ks, i, _ :: vs, o, cb, h, hc => outsAre_ok (ks := ks) (vs := vs) R h hc


/-! ### the start -/

def CloAt (P : Program) (w : World) (rb : List Nat) : CloE → Value → Prop
  | .clo k D p, v => CloOk P w rb k D p v
  | .cmp k D p, v => CmpOk P k D p v
  | .raw _, _ => False

/-- What the functions that are handed in do. -/
theorem clos_ok {P : Program} {w : World} {rb : List Nat} : ∀ {ks : List AK} {x : AKs ks} {vs : List Value} {cb ob : List Nat} {i : Nat}, ArgsOk P w rb ks x vs cb ob → ∀ id e, e.isRaw = false → lookC id (closOf i ks x) = some e →
    ∃ j v, id = 100000 + (i + j) ∧ vs[j]? = some v ∧ CloAt P w rb e v ∧ (parsOf i ks x).1[j]? = some (.sc (.clo id))
  | [], _, _, _, _, _, _, _, _, _, h => by cases h
  | k :: ks, _, [], _, _, _, h, _, _, _, _ => h.elim
  | k :: ks, (x, y), v :: vs, cb, ob, i, ⟨c1, o1, c2, o2, h1, h2, _, _⟩, id, e, hnr, h => by
    have skip : lookC id (closOf (i + 1) ks y) = some e → ∃ j v', id = 100000 + (i + j) ∧ (v :: vs)[j]? = some v' ∧ CloAt P w rb e v' ∧ (parsOf i (k :: ks) (x, y)).1[j]? = some (.sc (.clo id)) := by
      intro h
      obtain ⟨j, v', e1, e2, e3, e4⟩ := clos_ok (i := i + 1) h2 id e hnr h
      exact ⟨j + 1, v', by omega, by simpa using e2, e3, by simpa [parsOf] using e4⟩
    cases k
    case clo k =>
      obtain ⟨D, p⟩ := x
      simp only [closOf, lookC] at h
      cases hb : Nat.beq id (100000 + i) with
      | true =>
        rw [hb] at h
        have := Nat.eq_of_beq_eq_true hb
        subst this
        cases h
        exact ⟨0, v, rfl, rfl, h1.1, rfl⟩
      | false =>
        rw [hb] at h
        exact skip h
    case cmp k =>
      obtain ⟨D, p⟩ := x
      simp only [closOf, lookC] at h
      cases hb : Nat.beq id (100000 + i) with
      | true =>
        rw [hb] at h
        have := Nat.eq_of_beq_eq_true hb
        subst this
        cases h
        exact ⟨0, v, rfl, rfl, h1.1, rfl⟩
      | false =>
        rw [hb] at h
        exact skip h
    case val k =>
      cases k
      case raw =>
        simp only [closOf, lookC] at h
        cases hb : Nat.beq id (100000 + i) with
        | true => rw [hb] at h; cases h; cases hnr
        | false => rw [hb] at h; exact skip h
      all_goals exact skip h
    case cell t k =>
      cases k
      case cur =>
        simp only [closOf, lookC] at h
        cases hb : Nat.beq id (100000 + i) with
        | true => rw [hb] at h; cases h; cases hnr
        | false => rw [hb] at h; exact skip h
      all_goals exact skip h
    all_goals exact skip h

/-- .. and the slices. -/
theorem closRaw_ok {w : World} {rb : List Nat} {id : Nat} {r : Raw} : ∀ {ks : List AK} {x : AKs ks} {i : Nat}, RawsOk w rb ks x → lookC id (closOf i ks x) = some (.raw r) → ListOk w rb (.num .u8) r.bs r.u
  | [], _, _, _, h => by cases h
  | k :: ks, (x, y), i, hR, h => by
    cases k
    case val k =>
      cases k
      case raw =>
        simp only [closOf, lookC] at h
        cases hb : Nat.beq id (100000 + i) with
        | true => rw [hb] at h; cases h; exact hR.1
        | false => rw [hb] at h; exact closRaw_ok hR.2 h
      all_goals exact closRaw_ok (ks := ks) (x := y) (i := i + 1) hR h
    case cell t k =>
      cases k
      case cur =>
        simp only [closOf, lookC] at h
        cases hb : Nat.beq id (100000 + i) with
        | true => rw [hb] at h; cases h; exact hR.1
        | false => rw [hb] at h; exact closRaw_ok hR.2 h
      all_goals exact closRaw_ok (ks := ks) (x := y) (i := i + 1) hR h
    case clo k =>
      obtain ⟨D, p⟩ := x
      simp only [closOf, lookC] at h
      cases hb : Nat.beq id (100000 + i) with
      | true => rw [hb] at h; cases h
      | false => rw [hb] at h; exact closRaw_ok (ks := ks) (x := y) (i := i + 1) hR h
    case cmp k =>
      obtain ⟨D, p⟩ := x
      simp only [closOf, lookC] at h
      cases hb : Nat.beq id (100000 + i) with
      | true => rw [hb] at h; cases h
      | false => rw [hb] at h; exact closRaw_ok (ks := ks) (x := y) (i := i + 1) hR h
    all_goals exact closRaw_ok (ks := ks) (x := y) (i := i + 1) hR h


def lenOk : (ks : List AK) → AKs ks → Prop
  | [], _ => True
  | .list _ :: ks, (x, y) => x.length ≤ 9223372036854775807 ∧ lenOk ks y
  | .lift _ :: ks, (x, y) => x.length ≤ 9223372036854775807 ∧ lenOk ks y
  | .lcell _ _ :: ks, (x, y) => x.length ≤ 9223372036854775807 ∧ lenOk ks y
  | .own _ _ :: ks, (x, y) => x.length ≤ 9223372036854775807 ∧ lenOk ks y
  | .mrow _ _ :: ks, (x, y) => x.length ≤ 9223372036854775807 ∧ lenOk ks y
  | .mlift _ _ :: ks, (x, y) => x.length ≤ 9223372036854775807 ∧ lenOk ks y
  | .val _ :: ks, (_, y) => lenOk ks y
  | .cell _ _ :: ks, (_, y) => lenOk ks y
  | .clo _ :: ks, (_, y) => lenOk ks y
  | .cmp _ :: ks, (_, y) => lenOk ks y

/-- What the parameters say, by whatever names that agree with these. -/
structure Pars (P : Program) (w : World) (rb cb ob : List Nat) (svs : List SV) (us : List Up) (vs : List Value) (γ : Nat → Gh) : Prop where
  den : ∀ ids γ', (∀ u ∈ us, ids u.id = true ∧ γ' u.id = γ u.id) → denVs ids γ' svs vs ∧ ∀ u ∈ us, ∀ o, u.ob = some o → ObOk ids γ' w u.id o
  wr : ∀ u ∈ us, ∀ o b, u.ob = some o → o.wr = true → blk γ u.id = some b → b ∈ cb ++ ob
  rd : ∀ u ∈ us, ∀ o b, u.ob = some o → o.wr = false → blk γ u.id = some b → b ∈ rb
  sep : ∀ u ∈ us, ∀ u2 ∈ us, ∀ o p b, u.ob = some o → u2.ob = some p → o.wr = true → p.wr = true → blk γ u.id = some b → blk γ u2.id = some b → u.id = u2.id

theorem Pars.one {rb cb ob : List Nat} {sv : SV} {v : Value} {i : Nat} {o : Ob} {g : Gh} (h1 : ∀ (ids : Nat → Bool) γ', ids i = true → γ' i = g → denV ids γ' sv v ∧ ObOk ids γ' w i o)
    (h2 : o.wr = true → ∀ ad, g.a = some ad → ad.block ∈ cb ++ ob) (h3 : o.wr = false → ∀ ad, g.a = some ad → ad.block ∈ rb) : Pars P w rb cb ob [sv] [⟨i, true, some o⟩] [v] (fun _ => g) := by
  refine ⟨fun ids γ' h => ?_, ?_, ?_, ?_⟩
  · obtain ⟨q1, q2⟩ := h _ List.mem_cons_self
    obtain ⟨r1, r2⟩ := h1 ids γ' q1 q2
    refine ⟨⟨r1, trivial⟩, fun u hu p hp => ?_⟩
    simp at hu
    subst hu
    cases hp
    exact r2
  · intro u hu p b hp hw hb
    simp at hu
    subst hu
    cases hp
    unfold blk at hb
    cases ha : g.a with
    | none => rw [ha] at hb; cases hb
    | some ad => rw [ha] at hb; cases hb; exact h2 hw ad ha
  · intro u hu p b hp hw hb
    simp at hu
    subst hu
    cases hp
    unfold blk at hb
    cases ha : g.a with
    | none => rw [ha] at hb; cases hb
    | some ad => rw [ha] at hb; cases hb; exact h3 hw ad ha
  · intro u hu u2 hu2 _ _ _ _ _ _ _ _ _
    simp at hu hu2
    rw [hu, hu2]

theorem Pars.gone {rb cb ob : List Nat} {sv : SV} {v : Value} {i : Nat} {g : Gh} (h1 : ∀ (ids : Nat → Bool) γ', ids i = true → γ' i = g → denV ids γ' sv v) : Pars P w rb cb ob [sv] [⟨i, true, none⟩] [v] (fun _ => g) := by
  refine ⟨fun ids γ' h => ?_, ?_, ?_, ?_⟩
  · obtain ⟨q1, q2⟩ := h _ List.mem_cons_self
    refine ⟨⟨h1 ids γ' q1 q2, trivial⟩, fun u hu p hp => ?_⟩
    simp at hu
    subst hu
    cases hp
  · intro u hu p b hp _ _
    simp at hu
    subst hu
    cases hp
  · intro u hu p b hp _ _
    simp at hu
    subst hu
    cases hp
  · intro u hu u2 hu2 _ _ _ _ _ _ _ _ _
    simp at hu hu2
    rw [hu, hu2]

theorem Pars.none {rb cb ob : List Nat} {sv : SV} {v : Value} (h : ∀ (ids : Nat → Bool) γ', denV ids γ' sv v) : Pars P w rb cb ob [sv] [] [v] γ :=
  ⟨fun ids γ' _ => ⟨⟨h ids γ', trivial⟩, fun _ h => by cases h⟩, (fun _ h => by cases h), (fun _ h => by cases h), (fun _ h => by cases h)⟩

/-- A list that is handed in, as an object that is read. -/
theorem view_ok {rb : List Nat} {k : VK} {xs : List k.ty} {v : Value} (h : ListOk w rb k xs v) : ∃ g : Gh, xs.length ≤ 9223372036854775807 ∧ (∀ ad, g.a = some ad → ad.block ∈ rb) ∧
    ∀ (ids : Nat → Bool) (γ' : Nat → Gh) i, ids i = true → γ' i = g → den ids γ' (.vw i 0 xs.length) v ∧ ObOk ids γ' w i (.view k xs) := by
  obtain ⟨a, c, rfl, hc, hm, hcell⟩ := h
  have hm' : xs.length ≤ 9223372036854775807 := hm
  by_cases h0 : 0 < xs.length
  · obtain ⟨ad, ha, hrb, hlt, hcl⟩ := hcell h0
    subst ha
    refine ⟨⟨some ad, xs.length, c, k.size, undef⟩, hm', (fun ad' h => by cases h; exact hrb), fun ids γ' i hi hg => ?_⟩
    have h00 : ad.add (0 * k.size) = ad := by rw [Nat.zero_mul]; unfold Addr.add; cases ad with | mk b o p => cases p <;> simp
    refine ⟨⟨hi, by rw [hg]; simp, _, c, rfl, ⟨hc, fun _ ad' had => by rw [hg] at had; cases had; exact ⟨rfl, by rw [hg]⟩⟩, fun _ => ⟨ad, by rw [hg], by rw [hg, h00], fun _ => by rw [hg]⟩⟩, by rw [hg], by rw [hg], hm, fun ad' ha => ?_, fun _ => ⟨ad, by rw [hg], hcl⟩⟩
    rw [hg] at ha
    cases ha
    exact hlt
  · refine ⟨⟨none, xs.length, c, k.size, undef⟩, hm', (fun ad' h => by cases h), fun ids γ' i hi hg => ?_⟩
    refine ⟨⟨hi, by rw [hg]; simp, a, c, rfl, ⟨hc, fun _ ad' had => by rw [hg] at had; cases had⟩, fun h => (h0 h).elim⟩, by rw [hg], by rw [hg], hm, fun ad' ha => ?_, fun h => (h0 h).elim⟩
    rw [hg] at ha
    cases ha

/-- One parameter. -/
theorem par_ok {rb : List Nat} {k : AK} {x : k.ty} {v : Value} {c1 o1 : List Nat} {i : Nat} (hi : i < 50000) (h : ArgOk P w rb k x v c1 o1) :
    ∃ γ, Pars P w rb c1 o1 [(parOf i k x).1] (parOf i k x).2 [v] γ ∧ lenOk [k] (x, ()) ∧ (∀ u ∈ (parOf i k x).2, u.id = 100000 + i ∨ u.id = 150000 + i) ∧ (∀ ks vs cb γ', (∀ u ∈ (parOf i k x).2, γ' u.id = γ u.id) → cellsAt γ' (i + 1) ks vs cb → cellsAt γ' i (k :: ks) (v :: vs) (c1 ++ cb)) := by
  cases k with
  | val k =>
    obtain ⟨hv, rfl, rfl⟩ := h
    refine ⟨fun _ => ⟨none, 0, 0, 0, undef⟩, Pars.none fun ids γ' => ?_, trivial, (fun _ h => by cases h), fun ks vs cb γ' _ hc => hc⟩
    rw [hv]
    exact sval_ok (denL_enc k x)
  | list k =>
    obtain ⟨hl, rfl, rfl⟩ := h
    obtain ⟨g, hm, hb, hg⟩ := view_ok hl
    refine ⟨fun _ => g, Pars.one (fun ids γ' h1 h2 => hg ids γ' _ h1 h2) (fun h => by cases h) (fun _ => hb), ⟨hm, trivial⟩, ?_, fun ks vs cb γ' _ hc => hc⟩
    intro u hu
    simp [parOf] at hu
    rw [hu]
    exact .inl rfl
  | lift k =>
    obtain ⟨⟨u, hu, hl⟩, rfl, rfl⟩ := h
    obtain ⟨g, hm, hb, hg⟩ := view_ok hl
    refine ⟨fun _ => g, Pars.one (fun ids γ' h1 h2 => ?_) (fun h => by cases h) (fun _ => hb), ⟨hm, trivial⟩, ?_, fun ks vs cb γ' _ hc => hc⟩
    · obtain ⟨q1, q2⟩ := hg ids γ' _ h1 h2
      exact ⟨⟨[u], hu, q1, trivial⟩, q2⟩
    · intro u hu
      simp [parOf] at hu
      rw [hu]
      exact .inl rfl
  | cell t k =>
    obtain ⟨b, hv, hh, rfl, rfl⟩ := h
    refine ⟨fun _ => ⟨some ⟨b, 0, none⟩, 0, 0, 0, undef⟩, Pars.one (fun ids γ' h1 h2 => ?_) (fun _ ad h => by cases h; simp) (fun h => by cases h), trivial, ?_, fun ks vs cb γ' hγ hc => ⟨?_, hc⟩⟩
    · refine ⟨⟨h1, _, by rw [h2], ?_⟩, b, _, by rw [h2], hh, denL_enc k x⟩
      rw [hv]
      rfl
    · intro u hu
      simp [parOf] at hu
      rw [hu]
      exact .inl rfl
    · have := hγ _ List.mem_cons_self
      simp only at this
      rw [this]
  | lcell t k =>
    obtain ⟨b, u, hv, hh, hb, hl, rfl, rfl⟩ := h
    obtain ⟨g, hm, hgb, hg⟩ := view_ok hl
    have hne : 100000 + i ≠ 150000 + i := by omega
    refine ⟨fun j => if j = 100000 + i then ⟨some ⟨b, 0, none⟩, 0, 0, 0, undef⟩ else g, ⟨fun ids γ' h => ?_, ?_, ?_, ?_⟩, ⟨hm, trivial⟩, ?_, fun ks vs cb γ' _ hc => hc⟩
    · obtain ⟨q1, q2⟩ := h _ List.mem_cons_self
      obtain ⟨q3, q4⟩ := h _ (List.mem_cons_of_mem _ List.mem_cons_self)
      simp only at q1 q2 q3 q4
      rw [if_neg (by omega)] at q2
      rw [if_pos trivial] at q4
      obtain ⟨r1, r2⟩ := hg ids γ' _ q1 q2
      refine ⟨⟨⟨q3, _, by rw [q4], ?_⟩, trivial⟩, fun z hz p hp => ?_⟩
      · rw [hv]; rfl
      · simp only [parOf, List.mem_cons, List.not_mem_nil, or_false] at hz
        rcases hz with rfl | rfl
        · cases hp; exact r2
        · cases hp; exact ⟨b, [u], by rw [q4], hh, r1, trivial⟩
    · intro z hz o b' ho hw hb'
      simp only [parOf, List.mem_cons, List.not_mem_nil, or_false] at hz
      rcases hz with rfl | rfl <;> (cases ho; cases hw)
    · intro z hz o b' ho hw hb'
      simp only [parOf, List.mem_cons, List.not_mem_nil, or_false] at hz
      unfold blk at hb'
      rcases hz with rfl | rfl
      · simp only at hb'
        rw [if_neg (by omega)] at hb'
        cases ha : g.a with
        | none => rw [ha] at hb'; cases hb'
        | some ad => rw [ha] at hb'; cases hb'; exact hgb ad ha
      · simp only at hb'
        rw [if_pos trivial] at hb'
        cases hb'
        exact hb
    · intro z hz z2 hz2 o p b' ho hp hw
      simp only [parOf, List.mem_cons, List.not_mem_nil, or_false] at hz
      rcases hz with rfl | rfl <;> (cases ho; cases hw)
    · intro z hz
      simp only [parOf, List.mem_cons, List.not_mem_nil, or_false] at hz
      rcases hz with rfl | rfl
      · exact .inr rfl
      · exact .inl rfl
  | own e k =>
    obtain ⟨ho, rfl, rfl⟩ := h
    have hv : ∃ a c, v = .slice a (List.length (α := k.ty) x) c ∧ (List.length (α := k.ty) x) ≤ 9223372036854775807 := by
      rcases ho.2 with ⟨h1, h2⟩ | ⟨g, cap, cur, h1, _, _, h4, h5, _⟩
      · exact ⟨none, 0, by rw [h1, h2], by omega⟩
      · exact ⟨_, _, h1, Nat.le_trans h4 h5⟩
    obtain ⟨a, c, rfl, hm⟩ := hv
    refine ⟨fun _ => ⟨a, List.length (α := k.ty) x, c, k.size, undef⟩, Pars.one (fun ids γ' h1 h2 => ?_) (fun _ ad h => ?_) (fun h => by cases h), ⟨hm, trivial⟩, ?_, fun ks vs cb γ' _ hc => hc⟩
    · refine ⟨⟨h1, by rw [h2]⟩, by rw [h2], by rw [h2], ?_⟩
      rw [h2]
      exact ho
    · simp only at h
      subst h
      simp [Value.ownBlock]
    · intro u hu
      simp [parOf] at hu
      rw [hu]
      exact .inl rfl
  | mrow e k =>
    obtain ⟨ho, rfl, rfl⟩ := h
    have hv : ∃ a c, v = .slice a (List.length (α := k.ty) x) c ∧ (List.length (α := k.ty) x) ≤ 9223372036854775807 := by
      rcases ho.2 with ⟨h1, h2⟩ | ⟨g, cap, cur, h1, _, _, h4, h5, _⟩
      · exact ⟨none, 0, by rw [h1, h2], by omega⟩
      · exact ⟨_, _, h1, Nat.le_trans h4 h5⟩
    obtain ⟨a, c, rfl, hm⟩ := hv
    refine ⟨fun _ => ⟨a, List.length (α := k.ty) x, c, k.size, undef⟩, Pars.one (fun ids γ' h1 h2 => ?_) (fun _ ad h => ?_) (fun h => by cases h), ⟨hm, trivial⟩, ?_, fun ks vs cb γ' hγ hc => ⟨cb, ?_, rfl, hc⟩⟩
    · refine ⟨⟨h1, by rw [h2]⟩, by rw [h2], by rw [h2], ?_⟩
      rw [h2]
      exact ho
    · simp only at h
      subst h
      simp [Value.ownBlock]
    · intro u hu
      simp [parOf] at hu
      rw [hu]
      exact .inl rfl
    · have := hγ _ List.mem_cons_self
      simp only at this
      rw [this]
  | mlift e k =>
    obtain ⟨u0, rfl, ho, rfl, rfl⟩ := h
    have hv : ∃ a c, u0 = .slice a (List.length (α := k.ty) x) c ∧ (List.length (α := k.ty) x) ≤ 9223372036854775807 := by
      rcases ho.2 with ⟨h1, h2⟩ | ⟨g, cap, cur, h1, _, _, h4, h5, _⟩
      · exact ⟨none, 0, by rw [h1, h2], by omega⟩
      · exact ⟨_, _, h1, Nat.le_trans h4 h5⟩
    obtain ⟨a, c, rfl, hm⟩ := hv
    refine ⟨fun _ => ⟨a, List.length (α := k.ty) x, c, k.size, undef⟩, Pars.one (fun ids γ' h1 h2 => ?_) (fun _ ad h => ?_) (fun h => by cases h), ⟨hm, trivial⟩, ?_, fun ks vs cb γ' hγ hc => ⟨_, cb, rfl, ?_, rfl, hc⟩⟩
    · refine ⟨⟨_, rfl, ⟨h1, by rw [h2]⟩, trivial⟩, by rw [h2], by rw [h2], ?_⟩
      rw [h2]
      exact ho
    · simp only at h
      subst h
      simp [Value.ownBlock]
    · intro u hu
      simp [parOf] at hu
      rw [hu]
      exact .inl rfl
    · have := hγ _ List.mem_cons_self
      simp only at this
      rw [this]
  | clo k =>
    obtain ⟨_, rfl, rfl⟩ := h
    refine ⟨fun _ => ⟨none, 0, 0, 0, v⟩, Pars.gone (fun ids γ' h1 h2 => ⟨h1, by rw [h2]⟩), trivial, ?_, fun ks vs cb γ' _ hc => hc⟩
    intro u hu
    simp [parOf] at hu
    rw [hu]
    exact .inl rfl
  | cmp k =>
    obtain ⟨_, rfl, rfl⟩ := h
    refine ⟨fun _ => ⟨none, 0, 0, 0, v⟩, Pars.gone (fun ids γ' h1 h2 => ⟨h1, by rw [h2]⟩), trivial, ?_, fun ks vs cb γ' _ hc => hc⟩
    intro u hu
    simp [parOf] at hu
    rw [hu]
    exact .inl rfl


theorem lenOk_cons {k : AK} {ks : List AK} {x : k.ty} {y : AKs ks} (h : lenOk [k] (x, ())) (h' : lenOk ks y) : lenOk (k :: ks) (x, y) := by
  cases k <;> first | exact ⟨h.1, h'⟩ | exact h'

theorem parsOf_cons (i : Nat) (k : AK) (ks : List AK) (x : k.ty) (y : AKs ks) : parsOf i (k :: ks) (x, y) = ((parOf i k x).1 :: (parsOf (i + 1) ks y).1, (parOf i k x).2 ++ (parsOf (i + 1) ks y).2) := rfl

/-- All parameters. -/
theorem pars_ok {rb : List Nat} : ∀ {ks : List AK} {x : AKs ks} {vs : List Value} {cb ob : List Nat} {i : Nat}, i + ks.length ≤ 50000 → ArgsOk P w rb ks x vs cb ob → (cb ++ ob).Nodup →
    ∃ γ, Pars P w rb cb ob (parsOf i ks x).1 (parsOf i ks x).2 vs γ ∧ lenOk ks x ∧ (∀ u ∈ (parsOf i ks x).2, ∃ j, i ≤ j ∧ j < 50000 ∧ (u.id = 100000 + j ∨ u.id = 150000 + j)) ∧ (∀ γ', (∀ u ∈ (parsOf i ks x).2, γ' u.id = γ u.id) → cellsAt γ' i ks vs cb)
  | [], x, [], cb, ob, i, _, h, _ => by
    obtain ⟨rfl, rfl⟩ := h
    exact ⟨fun _ => ⟨none, 0, 0, 0, undef⟩, ⟨fun _ _ _ => ⟨trivial, fun _ h => by cases h⟩, (fun _ h => by cases h), (fun _ h => by cases h), (fun _ h => by cases h)⟩, trivial, (fun _ h => by cases h), fun _ _ => rfl⟩
  | [], _, _ :: _, _, _, _, _, h, _ => h.elim
  | _ :: _, _, [], _, _, _, _, h, _ => h.elim
  | k :: ks, (x, y), v :: vs, cb, ob, i, hi, h, hn => by
    obtain ⟨c1, o1, c2, o2, h1, h2, rfl, rfl⟩ := h
    simp only [List.length_cons] at hi
    have hn2 : (c2 ++ o2).Nodup := by
      have := List.nodup_append.1 hn
      refine List.nodup_append.2 ⟨(List.nodup_append.1 this.1).2.1, (List.nodup_append.1 this.2.1).2.1, fun a ha b hb => this.2.2 a (List.mem_append.2 (.inr ha)) b (List.mem_append.2 (.inr hb))⟩
    have hdis : ∀ b, b ∈ c1 ++ o1 → b ∈ c2 ++ o2 → False := by
      intro b hb1 hb2
      have hh := List.nodup_append.1 hn
      rcases List.mem_append.1 hb1 with p1 | p1 <;> rcases List.mem_append.1 hb2 with p2 | p2
      · exact (List.nodup_append.1 hh.1).2.2 b p1 b p2 rfl
      · exact hh.2.2 b (List.mem_append.2 (.inl p1)) b (List.mem_append.2 (.inr p2)) rfl
      · exact hh.2.2 b (List.mem_append.2 (.inr p2)) b (List.mem_append.2 (.inl p1)) rfl
      · exact (List.nodup_append.1 hh.2.1).2.2 b p1 b p2 rfl
    obtain ⟨γ1, p1, l1, d1, k1⟩ := par_ok (P := P) (i := i) (by omega) h1
    obtain ⟨γ2, p2, l2, d2, k2⟩ := pars_ok (i := i + 1) (by omega) h2 hn2
    rw [parsOf_cons]
    have far : ∀ u ∈ (parsOf (i + 1) ks y).2, u.id ≠ 100000 + i ∧ u.id ≠ 150000 + i := fun u hu => by
      obtain ⟨j, hj, hj2, e⟩ := d2 u hu
      omega
    let γ : Nat → Gh := fun j => if j = 100000 + i ∨ j = 150000 + i then γ1 j else γ2 j
    have g1 : ∀ u ∈ (parOf i k x).2, γ u.id = γ1 u.id := fun u hu => if_pos (d1 u hu)
    have g2 : ∀ u ∈ (parsOf (i + 1) ks y).2, γ u.id = γ2 u.id := fun u hu => if_neg fun e => by
      have := far u hu
      rcases e with e | e
      · exact this.1 e
      · exact this.2 e
    have b1 : ∀ u ∈ (parOf i k x).2, blk γ u.id = blk γ1 u.id := fun u hu => by unfold blk; rw [g1 u hu]
    have b2 : ∀ u ∈ (parsOf (i + 1) ks y).2, blk γ u.id = blk γ2 u.id := fun u hu => by unfold blk; rw [g2 u hu]
    have up : ∀ b, b ∈ c1 ++ o1 ∨ b ∈ c2 ++ o2 → b ∈ (c1 ++ c2) ++ (o1 ++ o2) := by
      intro b hb
      simp only [List.mem_append] at hb ⊢
      rcases hb with (hb | hb) | (hb | hb)
      · exact .inl (.inl hb)
      · exact .inr (.inl hb)
      · exact .inl (.inr hb)
      · exact .inr (.inr hb)
    refine ⟨γ, ⟨fun ids γ' hg => ?_, ?_, ?_, ?_⟩, lenOk_cons l1 l2, ?_, ?_⟩
    · obtain ⟨q1, q2⟩ := p1.den ids γ' fun u hu => by rw [← g1 u hu]; exact hg u (List.mem_append.2 (.inl hu))
      obtain ⟨r1, r2⟩ := p2.den ids γ' fun u hu => by rw [← g2 u hu]; exact hg u (List.mem_append.2 (.inr hu))
      refine ⟨⟨q1.1, r1⟩, fun u hu => ?_⟩
      rcases List.mem_append.1 hu with hu | hu
      · exact q2 u hu
      · exact r2 u hu
    · intro u hu o b ho hw hb
      rcases List.mem_append.1 hu with hu | hu
      · rw [b1 u hu] at hb; exact up b (.inl (p1.wr u hu o b ho hw hb))
      · rw [b2 u hu] at hb; exact up b (.inr (p2.wr u hu o b ho hw hb))
    · intro u hu o b ho hw hb
      rcases List.mem_append.1 hu with hu | hu
      · rw [b1 u hu] at hb; exact p1.rd u hu o b ho hw hb
      · rw [b2 u hu] at hb; exact p2.rd u hu o b ho hw hb
    · intro u hu u2 hu2 o p b ho hp hw hw2 hb hb2
      rcases List.mem_append.1 hu with hu | hu <;> rcases List.mem_append.1 hu2 with hu2 | hu2
      · rw [b1 u hu] at hb; rw [b1 u2 hu2] at hb2; exact p1.sep u hu u2 hu2 o p b ho hp hw hw2 hb hb2
      · rw [b1 u hu] at hb; rw [b2 u2 hu2] at hb2; exact (hdis b (p1.wr u hu o b ho hw hb) (p2.wr u2 hu2 p b hp hw2 hb2)).elim
      · rw [b2 u hu] at hb; rw [b1 u2 hu2] at hb2; exact (hdis b (p1.wr u2 hu2 p b hp hw2 hb2) (p2.wr u hu o b ho hw hb)).elim
      · rw [b2 u hu] at hb; rw [b2 u2 hu2] at hb2; exact p2.sep u hu u2 hu2 o p b ho hp hw hw2 hb hb2
    · intro u hu
      rcases List.mem_append.1 hu with hu | hu
      · exact ⟨i, Nat.le_refl _, by omega, d1 u hu⟩
      · obtain ⟨j, hj, hj2, e⟩ := d2 u hu
        exact ⟨j, by omega, hj2, e⟩
    · intro γ' hγ
      exact k1 ks vs c2 γ' (fun u hu => (hγ u (List.mem_append.2 (.inl hu))).trans (g1 u hu)) (k2 γ' fun u hu => (hγ u (List.mem_append.2 (.inr hu))).trans (g2 u hu))

theorem putS_get : ∀ (vs : List SV) (fr : Nat → SV) (i : Nat) (K : (Nat → SV) → Prop), putS fr i vs K → ∃ fr', K fr' ∧ (∀ j, j < i → fr' j = fr j) ∧ (∀ j, i + vs.length ≤ j → fr' j = fr j) ∧ ∀ j v, vs[j]? = some v → fr' (i + j) = v
  | [], fr, i, K, h => ⟨fr, h, fun _ _ => rfl, fun _ _ => rfl, fun j v h => by simp at h⟩
  | v :: r, fr, i, K, h => by
    obtain ⟨fr', h1, h2, h3, h4⟩ := putS_get r (upd fr i v) (i + 1) K h
    refine ⟨fr', h1, fun j hj => ?_, fun j hj => ?_, fun j u hu => ?_⟩
    · rw [h2 j (by omega), upd_ne _ _ (by omega)]
    · simp only [List.length_cons] at hj
      rw [h3 j (by omega), upd_ne _ _ (by omega)]
    · cases j with
      | zero =>
        simp at hu
        subst hu
        rw [Nat.add_zero, h2 i (by omega), upd_same]
      | succ j =>
        simp only [List.getElem?_cons_succ] at hu
        rw [show i + (j + 1) = i + 1 + j by omega]
        exact h4 j u hu

theorem updAll_mem : ∀ {us : List Up} {h : Nat → Option Ob} {i : Nat} {o : Ob}, updAll h us i = some o → h i = some o ∨ ∃ u ∈ us, u.id = i ∧ u.ob = some o
  | [], _, _, _, h => .inl h
  | u :: r, h, i, o, hh => by
    simp only [updAll] at hh
    rcases updAll_mem hh with h1 | ⟨v, hv, h1, h2⟩
    · by_cases e : i = u.id
      · subst e
        rw [upd_same] at h1
        exact .inr ⟨u, List.mem_cons_self, rfl, h1⟩
      · rw [upd_ne _ _ e] at h1
        exact .inl h1
    · exact .inr ⟨v, List.mem_cons_of_mem _ hv, h1, h2⟩

theorem denVs_get {ids : Nat → Bool} : ∀ {svs : List SV} {vs : List Value} {j : Nat} {v : SV}, denVs ids γ svs vs → svs[j]? = some v → ∃ u, vs[j]? = some u ∧ denV ids γ v u
  | [], [], _, _, _, h => by simp at h
  | s :: r, u :: t, 0, v, hd, h => by simp at h; subst h; exact ⟨u, rfl, hd.1⟩
  | s :: r, u :: t, j + 1, v, hd, h => by
    simp only [List.getElem?_cons_succ] at h ⊢
    exact denVs_get hd.2 h
  | [], _ :: _, _, _, hd, _ => hd.elim
  | _ :: _, [], _, _, hd, _ => hd.elim

theorem denVs_length {ids : Nat → Bool} : ∀ {svs : List SV} {vs : List Value}, denVs ids γ svs vs → svs.length = vs.length
  | [], [], _ => rfl
  | s :: r, u :: t, hd => by simp [denVs_length hd.2]
  | [], _ :: _, hd => hd.elim
  | _ :: _, [], hd => hd.elim

/-- **A function keeps its contract.** -/
theorem fn_ok {wd : Option Nat} {T : Nat → Option Ty} {Γ : List Sig} {s : Sig} {fn : Func} (hT : ∀ t ty, T t = some ty → TyOk P T t ty) (hΓ : ∀ s ∈ Γ, GSpec P s ∧ FnOk P s.f) (hm : P.follows .mixedOrders = true) (hks : s.ks.length ≤ 50000) (hf : P.funcs[s.f]? = some fn)
    (hv : ∀ x, lenOk s.ks x → andL (s.eff x).pre → vcFnW wd T Γ fn s x) : GSpec P s := by
  intro x vs w rb cb ob hargs hraw hnd hrb hpre
  obtain ⟨γ, hp, hlen, hid, hcells⟩ := pars_ok (P := P) (i := 0) (by omega) hargs hnd
  have h := hv x hlen hpre
  unfold vcFnW at h
  split at h
  · rename_i c pre res out hb heff
    rw [heff]
    simp only
    unfold initK at h
    split at h
    rename_i svs us hpars
    rw [hpars] at hp hid hcells
    simp only at hp hid hcells
    obtain ⟨fr, h1, _, h3, h4⟩ := putS_get _ _ _ _ h
    rw [force_u, putU_eq] at h1
    have hin : ∀ u ∈ us, updI (fun _ => false) us u.id = true := fun u hu => updI_true.2 (.inr (List.mem_map_of_mem hu))
    obtain ⟨hden, hobs⟩ := hp.den (updI (fun _ => false) us) γ fun u hu => ⟨hin u hu, rfl⟩
    have hden0 := hden
    replace hden := pack_den (f := s.f) hden
    have hl := denVs_length hden
    have hob : ∀ i o, updAll (fun _ => none) us i = some o → ∃ u ∈ us, u.id = i ∧ u.ob = some o := fun i o ho => by
      rcases updAll_mem ho with h | h
      · cases h
      · exact h
    let X : Cx := ⟨w, fun b => b ∈ cb ∨ b ∈ ob, fn.ntmps, updI (fun _ => false) us, γ, rb.filter fun b => decide (b < w.heap.size)⟩
    have hE : EnvOk P ⟨T, Γ, fn.ntmps, closOf 0 s.ks x, wd⟩ X := by
      refine ⟨hT, fun s hs => (hΓ s hs).1, fun s hs => (hΓ s hs).2, fun id e he => ?_, fun b hb => ?_, (rawsTab hraw).to fun b hb hlt => ⟨List.mem_filter.2 ⟨hb, by simpa using hlt⟩, hlt, rfl⟩⟩
      · by_cases hnr : e.isRaw = true
        · cases e with
          | raw r =>
            refine ⟨fun h => (by cases h), ?_⟩
            obtain ⟨aa, c, q1, q2, q3, q4⟩ := closRaw_ok hraw he
            exact ⟨aa, c, q1, q2, q3, fun hp => by obtain ⟨ad, p1, p2, p3, p4⟩ := q4 hp; exact ⟨ad, p1, List.mem_filter.2 ⟨p2, by simpa using p3⟩, p3, p4⟩⟩
          | _ => cases hnr
        have hnr : e.isRaw = false := by simpa using hnr
        obtain ⟨j, v, e1, e2, e3, e4⟩ := clos_ok (i := 0) hargs id e hnr he
        rw [hpars] at e4
        obtain ⟨u, hu, hd⟩ := denVs_get hden0 e4
        rw [e2] at hu
        cases hu
        obtain ⟨hi, hv⟩ := hd
        refine ⟨fun _ => hi, ?_⟩
        show CloF P X e (γ id).v
        rw [← hv]
        cases e with
        | cmp k D p => exact e3
        | raw r => cases hnr
        | clo k D p =>
          obtain ⟨f, caps, q1, q2, q3⟩ := e3
          refine ⟨f, caps, q1, q2, fun w' hw' => q3 w' ⟨hw'.1, fun b hb hlt => hw'.2 b (List.mem_filter.2 ⟨hb, by simpa using hlt⟩) hlt⟩⟩
      · obtain ⟨h1, h2⟩ := List.mem_filter.1 hb
        refine ⟨by simpa using h2, fun h => ?_⟩
        exact hrb b (List.mem_append.2 h) h1
    have R : Rel X ⟨fr, updAll (fun _ => none) us, updI (fun _ => false) us⟩ { tmps := (packA s.f vs).toArray ++ Array.replicate (fn.ntmps - (packA s.f vs).toArray.size) undef, defers := [] } w γ := by
      refine ⟨fun j => ?_, ?_, rfl, ?_, ?_, ?_, ?_, Kept.refl _ _, fun i hi => ⟨hi, rfl⟩⟩
      · rw [Array.getD_eq_getD_getElem?, Array.getElem?_append]
        by_cases hj : j < (packA s.f vs).length
        · obtain ⟨sv, hsv⟩ : ∃ sv, (packS s.f svs)[j]? = some sv := ⟨(packS s.f svs)[j]'(by omega), List.getElem?_eq_getElem (by omega)⟩
          obtain ⟨u, hu, hd⟩ := denVs_get hden hsv
          have hfj := h4 j sv hsv
          rw [Nat.zero_add] at hfj
          simp only [List.size_toArray, hj, if_true, List.getElem?_toArray, hu, Option.getD_some]
          show denV _ _ (fr j) u
          rw [hfj]
          exact hd
        · have hfj := h3 j (by omega)
          simp only [List.size_toArray, hj, if_false]
          show denV _ _ (fr j) _
          rw [hfj]
          show _ = undef
          rw [Array.getElem?_replicate]
          split <;> rfl
      · show fn.ntmps ≤ _
        simp only [Array.size_append, Array.size_replicate, List.size_toArray]
        omega
      · intro i o ho
        obtain ⟨u, hu, rfl, huo⟩ := hob i o ho
        exact hobs u hu o huo
      · intro i o ho
        obtain ⟨u, hu, rfl, huo⟩ := hob i o ho
        exact hin u hu
      · intro i j o p b ho hpp hb1 hb2
        obtain ⟨u, hu, rfl, huo⟩ := hob i o ho
        obtain ⟨u2, hu2, rfl, huo2⟩ := hob j p hpp
        cases hw1 : o.wr <;> cases hw2 : p.wr
        · exact .inr ⟨rfl, rfl⟩
        · exact (hrb b (hp.wr u2 hu2 p b huo2 hw2 hb2) (hp.rd u hu o b huo hw1 hb1)).elim
        · exact (hrb b (hp.wr u hu o b huo hw1 hb1) (hp.rd u2 hu2 p b huo2 hw2 hb2)).elim
        · exact .inl (hp.sep u hu u2 hu2 o p b huo huo2 hw1 hw2 hb1 hb2)
      · intro i o b ho hw hb1
        obtain ⟨u, hu, rfl, huo⟩ := hob i o ho
        exact .inr (by simpa using hp.wr u hu o b huo hw hb1)
    refine calls_of_wp hf hb (vc_ok hE rfl hm c R h1 fun e st' a' w' γ' R' _ hk => ?_)
    have fin : endK ⟨T, Γ, fn.ntmps, closOf 0 s.ks x, wd⟩ fn.results.toList s.ks s.rs res out st' → a'.defers = [] ∧ ∃ v, (results fn a'.tmps).run P w' = .ok v w' ∧
        ∃ us l, Ending.returned v = .returned (packV us) ∧ RessOk w' s.rs res us l ∧ l.Nodup ∧ (∀ b ∈ l, w.heap.size ≤ b ∨ b ∈ ob) ∧ OutsOk w' s.ks vs out cb ∧ Kept (fun b => b ∈ cb ∨ b ∈ ob) w w' := by
      intro hk
      unfold endK at hk
      split at hk
      · rename_i rvs hrv
        obtain ⟨us', hrun, hd'⟩ := results_ok hE R' hrv
        obtain ⟨l, hl1, hl2, hl3⟩ := ressAre_ok R' hk hd'
        split at hl1
        · rename_i hdist
          have hcells' := hcells γ' fun u hu => (R'.base u.id (hin u hu)).2
          obtain ⟨ho1, ho2⟩ := outsAre_ok R' hl1 hcells'
          refine ⟨R'.df, _, hrun, us', _, rfl, hl3, blks_nodup R' (List.nodup_append.1 (distB_true hdist)).1 (fun i hi => by obtain ⟨o, q1, q2, _⟩ := hl2 i hi; exact ⟨o, q1, q2⟩), fun b hb => ?_, ho1, R'.kept⟩
          obtain ⟨i, hi, hbi⟩ := List.mem_filterMap.1 hb
          obtain ⟨o, q1, q2, q3⟩ := hl2 i hi
          rcases R'.lo i o b q1 q2 hbi with h | h | h
          · exact .inl h
          · obtain ⟨j, p, hj, hpw, hbj, hjc⟩ := ho2 b h
            rcases R'.sep i j o _ b q1 hj hbi hbj with e | ⟨e, _⟩
            · subst e
              rw [q1] at hj
              cases hj
              rcases hjc with ⟨t, cs, e⟩ | hjc
              · exact (q3 t cs e).elim
              · exact ((List.nodup_append.1 (distB_true hdist)).2.2 _ hi _ hjc rfl).elim
            · rw [q2] at e; cases e
          · exact .inr h
        · exact hl1.elim
      · exact hk.elim
    cases e with
    | normal => exact fin hk
    | ret => exact fin hk
    | _ => exact hk.elim
  · exact h.elim

end
end Go.Vx
