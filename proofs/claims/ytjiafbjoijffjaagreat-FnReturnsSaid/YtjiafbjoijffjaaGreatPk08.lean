/- The parts of a function's code, by the evaluator. -/
import Derived.Test.YtjiafbjoijffjaaGreatPk07
import Derived.Deep.LoopGhost
namespace Go.Vx
set_option linter.unusedSimpArgs false
set_option linter.unusedVariables false
open Go Go.RowKit

theorem lookR_key : ∀ {m : Ren} {i : Nat} {x : Option Nat}, lookR i m = some x → i ∈ keysR m
  | [], _, _, h => by cases h
  | (k, v) :: r, i, x, h => by
    unfold lookR at h
    split at h
    · rename_i e; simp [keysR, Nat.eq_of_beq_eq_true e]
    · exact List.mem_cons_of_mem _ (lookR_key h)

theorem lookR_target : ∀ {m : Ren} {i x : Nat}, lookR i m = some (some x) → x ∈ targets m
  | [], _, _, h => by cases h
  | (k, v) :: r, i, x, h => by
    unfold lookR at h
    split at h
    · cases h; simp [targets]
    · have ih := lookR_target h
      cases v with
      | none => simpa [targets] using ih
      | some y => simp only [targets]; exact List.mem_cons_of_mem _ ih

theorem lookR_inj : ∀ {m : Ren} {i j x : Nat}, (targets m).Nodup → lookR i m = some (some x) → lookR j m = some (some x) → i = j
  | [], _, _, _, _, h, _ => by cases h
  | (k, v) :: r, i, j, x, hn, h1, h2 => by
    unfold lookR at h1 h2
    have hr : (targets r).Nodup := by
      cases v with
      | none => simpa [targets] using hn
      | some y => simp only [targets, List.nodup_cons] at hn; exact hn.2
    cases e1 : Nat.beq i k <;> cases e2 : Nat.beq j k <;> simp only [e1, e2] at h1 h2
    · exact lookR_inj hr h1 h2
    · cases h2
      simp only [targets, List.nodup_cons] at hn
      exact (hn.1 (lookR_target h1)).elim
    · cases h1
      simp only [targets, List.nodup_cons] at hn
      exact (hn.1 (lookR_target h2)).elim
    · rw [Nat.eq_of_beq_eq_true e1, Nat.eq_of_beq_eq_true e2]

theorem lookO_key : ∀ {l : List (Nat × Ob)} {i : Nat} {o : Ob}, lookO i l = some o → i ∈ keysO l
  | [], _, _, h => by cases h
  | (k, v) :: r, i, o, h => by
    unfold lookO at h
    split at h
    · rename_i e; simp [keysO, Nat.eq_of_beq_eq_true e]
    · exact List.mem_cons_of_mem _ (lookO_key h)

theorem key_lookO : ∀ {l : List (Nat × Ob)} {i : Nat}, i ∈ keysO l → ∃ o, lookO i l = some o
  | [], _, h => by cases h
  | (k, v) :: r, i, h => by
    unfold lookO
    split
    · exact ⟨v, rfl⟩
    · rename_i e
      rcases List.mem_cons.1 h with rfl | h
      · simp at e
      · exact key_lookO h

theorem same_mem {m : Ren} : ∀ {l : List Nat} {i : Nat}, i ∈ l → lookR i m = none → i ∈ same m l
  | [], _, h, _ => by cases h
  | k :: r, i, h, hn => by
    unfold same
    rcases List.mem_cons.1 h with rfl | h
    · rw [hn]; exact List.mem_cons_self
    · split
      · exact List.mem_cons_of_mem _ (same_mem h hn)
      · exact same_mem h hn

theorem allB_spec {f : Nat → Bool} : ∀ {l : List Nat}, allB f l = true → ∀ i ∈ l, f i = true
  | [], _, _, h => by cases h
  | k :: r, h, i, hi => by
    unfold allB at h
    split at h
    · rename_i e
      rcases List.mem_cons.1 hi with rfl | hi
      · exact e
      · exact allB_spec h i hi
    · cases h

theorem noneB_spec {f : Nat → Bool} : ∀ {l : List Nat}, noneB f l = true → ∀ i ∈ l, f i = false
  | [], _, _, h => by cases h
  | k :: r, h, i, hi => by
    unfold noneB at h
    split at h
    · cases h
    · rename_i e
      rcases List.mem_cons.1 hi with rfl | hi
      · exact e
      · exact noneB_spec h i hi

theorem leH_get {m : Ren} {ids : Nat → Bool} {st : St} : ∀ {l : List (Nat × Ob)} {i : Nat} {o : Ob}, leH m ids st l → lookO i l = some o →
    (match lookR i m with
      | some (some i') => match st.hp i' with | some o' => leOb m ids o' o | none => False
      | some none => nilOb o
      | none => match st.hp i with | some o' => leOb m ids o' o | none => False)
  | [], _, _, _, h => by cases h
  | (k, v) :: r, i, o, hl, h => by
    unfold lookO at h
    split at h
    · rename_i e
      have := Nat.eq_of_beq_eq_true e
      subst this
      cases h
      exact hl.1
    · exact leH_get hl.2 h

theorem leK_get {m : Ren} {ids : Nat → Bool} {st st0 : St} : ∀ {l : List Nat} {i : Nat}, leK m ids st st0 l → i ∈ l → (match st.hp i, st0.hp i with | some o, some o' => leOb m ids o o' | _, _ => False)
  | [], _, _, h => by cases h
  | k :: r, i, hl, h => by
    rcases List.mem_cons.1 h with rfl | h
    · exact hl.1
    · exact leK_get hl.2 h

theorem leF_get {m : Ren} {ids : Nat → Bool} {st : St} : ∀ {l : List (Nat × SV)} {j : Nat} {v : SV}, leF m ids st l → lookS j l = some v → leSV m ids (st.fr j) v
  | [], _, _, _, h => by cases h
  | (k, x) :: r, j, v, hl, h => by
    unfold lookS at h
    split at h
    · rename_i e
      have := Nat.eq_of_beq_eq_true e
      subst this
      cases h
      exact hl.1
    · exact leF_get hl.2 h

/-- what the new names stand for -/
def renG (γ : Nat → Gh) (m : Ren) (hp : List (Nat × Ob)) : Nat → Gh := fun i =>
  match lookR i m with
  | some (some i') => γ i'
  | some none => ⟨none, 0, 0, match lookO i hp with | some (.row _ k _) => k.size | _ => 0, undef⟩
  | none => γ i

section
variable {ids ids' : Nat → Bool} {γ : Nat → Gh} {m : Ren} {hp : List (Nat × Ob)}

theorem den_refs {s : Sc} {v : Value} (h : den ids γ s v) : ∀ i ∈ idsSc s, ids i = true := by
  intro i hi
  cases s <;> simp [idsSc] at hi
  case ref => rw [hi]; exact h.1
  case eref => rw [hi]; exact h.1
  case vw => rw [hi]; exact h.1
  case clo => rw [hi]; exact h.1
  case own => rw [hi]; exact h.1
  case fn f c =>
    obtain ⟨vs, _, hc⟩ := h
    obtain ⟨x, hx⟩ := hi
    have : ∀ {c : List (Nat × Nat)} {vs : List Value}, denCap ids γ c vs → ∀ p ∈ c, ids p.1 = true := by
      intro c
      induction c with
      | nil => intro vs _ p hp; cases hp
      | cons q r ih =>
        intro vs h p hp
        cases vs with
        | nil => exact h.elim
        | cons u t =>
          rcases List.mem_cons.1 hp with rfl | hp
          · exact h.1.1
          · exact ih h.2 p hp
    exact this hc _ hx

theorem denL_refs : ∀ {cs : List Sc} {vs : List Value}, denL ids γ cs vs → ∀ i ∈ cs.flatMap idsSc, ids i = true
  | [], [], _, i, h => by simp at h
  | s :: r, v :: t, h, i, hi => by
    simp only [List.flatMap_cons, List.mem_append] at hi
    rcases hi with hi | hi
    · exact den_refs h.1 i hi
    · exact denL_refs h.2 i hi
  | [], _ :: _, h, _, _ => h.elim
  | _ :: _, [], h, _, _ => h.elim

theorem denV_refs {x : SV} {v : Value} (h : denV ids γ x v) : ∀ i ∈ idsSV x, ids i = true := by
  cases x with
  | sc s => exact den_refs h
  | ag cs => obtain ⟨vs, _, hc⟩ := h; exact denL_refs hc
  | tp xs =>
    obtain ⟨us, _, hd⟩ := h
    have : ∀ {xs : List (Bool × List Sc)} {us : List Value}, denT ids γ xs us → ∀ i ∈ xs.flatMap fun p => p.2.flatMap idsSc, ids i = true := by
      intro xs
      induction xs with
      | nil => intro us _ i hi; simp at hi
      | cons p r ih =>
        intro us h i hi
        cases us with
        | nil => exact h.elim
        | cons u t =>
          simp only [List.flatMap_cons, List.mem_append] at hi
          rcases hi with hi | hi
          · obtain ⟨⟨vs, _, hc⟩, _⟩ := h
            exact denL_refs hc i hi
          · exact ih h.2 i hi
    exact this hd

/-- By names that are the same for all that is spoken of. -/
theorem den_on {γ' : Nat → Gh} {s : Sc} {v : Value} (h : den ids γ s v) (hs : ∀ i ∈ idsSc s, ids' i = true ∧ γ' i = γ i) : den ids' γ' s v := by
  have hW : Wider (fun i => ids i && decide (i ∈ idsSc s)) ids' γ γ' := ⟨fun i hi => by simp at hi; exact (hs i hi.2).1, fun i hi => by simp at hi; exact (hs i hi.2).2⟩
  refine den_wider hW ?_
  have hr := den_refs h
  cases s with
  | ref i o => exact ⟨by simp [h.1, idsSc], h.2⟩
  | eref i j o => exact ⟨by simp [h.1, idsSc], h.2⟩
  | vw i o l => exact ⟨by simp [h.1, idsSc], h.2⟩
  | own i => exact ⟨by simp [h.1, idsSc], h.2⟩
  | clo i => exact ⟨by simp [h.1, idsSc], h.2⟩
  | fn f c =>
    obtain ⟨vs, hv, hc⟩ := h
    refine ⟨vs, hv, ?_⟩
    have : ∀ {c' : List (Nat × Nat)} {vs : List Value}, (∀ p ∈ c', p ∈ c) → denCap ids γ c' vs → denCap (fun i => ids i && decide (i ∈ idsSc (.fn f c))) γ c' vs := by
      intro c'
      induction c' with
      | nil => intro vs _ h; cases vs <;> first | trivial | exact h.elim
      | cons q r ih =>
        intro vs hq h
        cases vs with
        | nil => exact h.elim
        | cons u t => exact ⟨⟨by simp only [h.1.1, Bool.true_and, idsSc]; exact decide_eq_true (List.mem_map_of_mem (f := fun x => x.1) (hq q List.mem_cons_self)), h.1.2⟩, ih (fun p hp => hq p (List.mem_cons_of_mem _ hp)) h.2⟩
    exact this (fun _ h => h) hc
  | _ => exact h

theorem denL_on {γ' : Nat → Gh} : ∀ {cs : List Sc} {vs : List Value}, denL ids γ cs vs → (∀ i ∈ cs.flatMap idsSc, ids' i = true ∧ γ' i = γ i) → denL ids' γ' cs vs
  | [], [], _, _ => trivial
  | s :: r, v :: t, h, hs => ⟨den_on h.1 fun i hi => hs i (by simp only [List.flatMap_cons, List.mem_append]; exact .inl hi), denL_on h.2 fun i hi => hs i (by simp only [List.flatMap_cons, List.mem_append]; exact .inr hi)⟩
  | [], _ :: _, h, _ => h.elim
  | _ :: _, [], h, _ => h.elim

theorem denV_on {γ' : Nat → Gh} {x : SV} {v : Value} (h : denV ids γ x v) (hs : ∀ i ∈ idsSV x, ids' i = true ∧ γ' i = γ i) : denV ids' γ' x v := by
  cases x with
  | sc s => exact den_on h hs
  | ag cs => obtain ⟨vs, hv, hc⟩ := h; exact ⟨vs, hv, denL_on hc hs⟩
  | tp xs =>
    obtain ⟨us, hv, hd⟩ := h
    refine ⟨us, hv, ?_⟩
    have : ∀ {xs : List (Bool × List Sc)} {us : List Value}, denT ids γ xs us → (∀ i ∈ xs.flatMap fun p => p.2.flatMap idsSc, ids' i = true ∧ γ' i = γ i) → denT ids' γ' xs us := by
      intro xs
      induction xs with
      | nil => intro us h _; cases us <;> first | trivial | exact h.elim
      | cons p r ih =>
        intro us h hs
        cases us with
        | nil => exact h.elim
        | cons u t =>
          obtain ⟨⟨vs, hu, hc⟩, hr⟩ := h
          exact ⟨⟨vs, hu, denL_on hc fun i hi => hs i (by simp only [List.flatMap_cons, List.mem_append]; exact .inl hi)⟩, ih hr fun i hi => hs i (by simp only [List.flatMap_cons, List.mem_append]; exact .inr hi)⟩
    exact this hd hs

theorem leSc_ok {s s' : Sc} {v : Value} (h : leSc m ids' s s') (hd : den ids γ s v) : den ids' (renG γ m hp) s' v := by
  have none_ : ∀ {i}, lookR i m = none → renG γ m hp i = γ i := fun h => by unfold renG; rw [h]
  unfold leSc at h
  split at h
  · trivial
  · split at h
    · rename_i e; rw [← h.out, ← sameK_eq e]; exact hd
    · exact h.elim
  · rw [← h.out]; exact hd
  · rw [← h.out]; exact hd
  · rw [← h.out]; exact hd
  · rw [← h.out]; exact hd
  · split at h
    · rename_i e1 e2
      simp only [Bool.and_eq_true] at e1
      have e3 := Nat.eq_of_beq_eq_true e1.1.1
      have e4 := Nat.eq_of_beq_eq_true e1.1.2
      subst e3; subst e4
      exact ⟨e1.2, by rw [none_ e2]; exact hd.2⟩
    · exact h.elim
  · split at h
    · rename_i e1 e2
      simp only [Bool.and_eq_true] at e1
      have e3 := Nat.eq_of_beq_eq_true e1.1.1
      have e4 := Nat.eq_of_beq_eq_true e1.1.2
      have h := h.out; subst e3; subst e4; subst h
      exact ⟨e1.2, by rw [none_ e2]; exact hd.2⟩
    · exact h.elim
  · split at h
    · rename_i e1 e2
      simp only [Bool.and_eq_true] at e1
      have e3 := Nat.eq_of_beq_eq_true e1.1
      obtain ⟨⟨h1⟩, ⟨h2⟩⟩ := h
      subst e3; subst h1; subst h2
      exact ⟨e1.2, by rw [none_ e2]; exact hd.2⟩
    · exact h.elim
  · split at h
    · rename_i e2 e3
      split at h
      · rename_i e1
        have e4 := Nat.eq_of_beq_eq_true e1
        subst e4
        exact ⟨e3, by rw [none_ e2]; exact hd.2⟩
      · exact h.elim
    · rename_i i' e2 e3
      split at h
      · rename_i e4
        have e4 := Nat.eq_of_beq_eq_true e4
        subst e4
        refine ⟨e3, ?_⟩
        unfold renG
        rw [e2]
        exact hd.2
      · exact h.elim
    · exact h.elim
  · split at h
    · rename_i e2 e3
      refine ⟨e3, ?_⟩
      unfold renG
      rw [e2]
      exact hd
    · exact h.elim
  · exact hd
  · split at h
    · rename_i e
      have e := Nat.eq_of_beq_eq_true e
      subst e
      obtain ⟨vs, hv, hc⟩ := hd
      cases vs with
      | nil => exact ⟨[], hv, trivial⟩
      | cons u t => exact hc.elim
    · exact h.elim
  · exact hd
  · split at h
    · rename_i e1 e2
      simp only [Bool.and_eq_true] at e1
      have e3 := Nat.eq_of_beq_eq_true e1.1
      subst e3
      exact ⟨e1.2, by rw [none_ e2]; exact hd.2⟩
    · exact h.elim
  · have e := h.out
    subst e
    exact hd
  · exact h.elim

theorem leL_ok : ∀ {cs cs' : List Sc} {vs : List Value}, leL m ids' cs cs' → denL ids γ cs vs → denL ids' (renG γ m hp) cs' vs
  | [], [], [], _, _ => trivial
  | a :: r, b :: s, v :: t, h, hd => ⟨leSc_ok h.1 hd.1, leL_ok h.2 hd.2⟩
  | [], [], _ :: _, _, hd => hd.elim
  | _ :: _, _, [], _, hd => hd.elim
  | [], _ :: _, _, h, _ => h.elim
  | _ :: _, [], _, h, _ => h.elim

theorem leSV_ok {x x' : SV} {v : Value} (h : leSV m ids' x x') (hd : denV ids γ x v) : denV ids' (renG γ m hp) x' v := by
  unfold leSV at h
  split at h
  · exact leSc_ok h hd
  · obtain ⟨vs, hv, hc⟩ := hd; exact ⟨vs, hv, leL_ok h hc⟩
  · trivial
  · exact h.elim

theorem leOb_ok {w : World} {i i' : Nat} {o o' : Ob} (h : leOb m ids' o' o) (hd : ObOk ids γ w i' o') (hg : renG γ m hp i = γ i') : ObOk ids' (renG γ m hp) w i o ∧ o.wr = o'.wr := by
  unfold leOb at h
  split at h
  · split at h
    · rename_i e
      have e := Nat.eq_of_beq_eq_true e
      subst e
      obtain ⟨b, vs, ha, hh, hc⟩ := hd
      exact ⟨⟨b, vs, by rw [hg]; exact ha, hh, leL_ok h hc⟩, rfl⟩
    · exact h.elim
  · split at h
    · rename_i e
      have e := Nat.eq_of_beq_eq_true e
      subst e
      obtain ⟨b, vs, ha, hh, hc⟩ := hd
      exact ⟨⟨b, vs, by rw [hg]; exact ha, hh, leL_ok h hc⟩, rfl⟩
    · exact h.elim
  · split at h
    · rename_i e hc
      have e := Nat.eq_of_beq_eq_true e
      subst e
      have h := h.out
      subst h
      obtain ⟨hf, hl, hk⟩ := castL_flat hc
      subst hk
      obtain ⟨h1, h2, h3⟩ := hd
      refine ⟨⟨by rw [hg]; exact h1, by rw [hg, h2, hl], ?_⟩, rfl⟩
      rw [hg, ← hf, ← hl]
      exact h3
    · exact h.elim
  · split at h
    · rename_i hc
      have h := h.out
      subst h
      obtain ⟨hf, hl, hk⟩ := castL_flat hc
      subst hk
      obtain ⟨h1, h2, h3, h4, h5⟩ := hd
      refine ⟨⟨by rw [hg]; exact h1, by rw [hg, h2, hl], by omega, fun ad ha => h4 ad (by rw [← hg]; exact ha), fun hp => ?_⟩, rfl⟩
      obtain ⟨ad, ha, hcell⟩ := h5 (by omega)
      exact ⟨ad, by rw [hg]; exact ha, by rw [← hf]; exact hcell⟩
    · exact h.elim
  · split at h
    · rename_i hc
      have h := h.out
      subst h
      obtain ⟨hf, hl, hk⟩ := castL_flat hc
      subst hk
      obtain ⟨h1, h2, h3, h4, h5⟩ := hd
      refine ⟨⟨by rw [hg]; exact h1, by rw [hg, h2, hl], by omega, fun ad ha => h4 ad (by rw [← hg]; exact ha), fun hp => ?_⟩, rfl⟩
      obtain ⟨ad, ha, hcell⟩ := h5 (by omega)
      exact ⟨ad, by rw [hg]; exact ha, by rw [← hf]; exact hcell⟩
    · exact h.elim
  · exact h.elim
end

/-- **At the head of a loop.** -/
theorem fits_ok {X : Cx} {h : Head} {ds : List Nat} {st0 st : St} {a : Act} {w : World} {γ : Nat → Gh} (hf : h.fits ds st0 st) (hfr : ∀ j, j ∉ ds → st.fr j = st0.fr j) (hI : ∀ i, X.i0 i = true → st0.ids i = true)
    (hW0 : ∀ j, ∀ i ∈ idsSV (st0.fr j), st0.ids i = true) (R : Rel X st a w γ) : ∃ γ', Rel X (h.st ds st0) a w γ' := by
  unfold Head.fits at hf
  dsimp only at hf
  generalize hm : dropR st0.ids (renH st (renF st [] h.fr) h.hp) = m at hf
  split at hf
  · rename_i hok
    obtain ⟨h1, h2, h3⟩ := hf
    unfold Head.okB at hok
    simp only [Bool.and_eq_true] at hok
    obtain ⟨⟨⟨⟨d1, d2⟩, n1⟩, a1⟩, s1⟩ := hok
    have d1 := distB_true d1
    have d2 := distB_true d2
    have n1 := noneB_spec n1
    have a1 := allB_spec a1
    have s1 := subB_true s1
    have unren : ∀ i, st0.ids i = true → lookR i m = none := fun i hi => by
      cases hq : lookR i m with
      | none => rfl
      | some x => have := n1 i (lookR_key hq); rw [hi] at this; cases this
    have keepIds : ∀ i ∈ h.keep, st0.ids i = true := fun i hi => a1 i (List.mem_append.2 (.inr hi))
    have hg0 : ∀ i, lookR i m = none → renG γ m h.hp i = γ i := fun i hi => by unfold renG; rw [hi]
    have hidsT : ∀ i, st0.ids i = true → (h.st ds st0).ids i = true := fun i hi => by
      show (match lookO i h.hp with | some _ => true | none => st0.ids i) = true
      split
      · rfl
      · exact hi
    -- each object of the head, and what it is now
    have obj : ∀ i o, (h.st ds st0).hp i = some o → ObOk (h.st ds st0).ids (renG γ m h.hp) w i o ∧ (h.st ds st0).ids i = true ∧
        (blk (renG γ m h.hp) i = none ∨ ∃ i' o', st.hp i' = some o' ∧ o'.wr = o.wr ∧ blk (renG γ m h.hp) i = blk γ i' ∧ ((lookR i m = some (some i')) ∨ (lookR i m = none ∧ i' = i ∧ i ∈ same m (keysO h.hp) ++ h.keep))) := by
      intro i o ho
      change (match lookO i h.hp with | some o => some o | none => match elemB i h.keep with | true => st0.hp i | false => none) = some o at ho
      split at ho
      · rename_i o1 hl
        cases ho
        have hle := leH_get h2 hl
        have hid : (h.st ds st0).ids i = true := by
          show (match lookO i h.hp with | some _ => true | none => st0.ids i) = true
          rw [hl]
        split at hle
        · rename_i i' hr
          split at hle
          · rename_i o' ho'
            have hg : renG γ m h.hp i = γ i' := by unfold renG; rw [hr]
            obtain ⟨q1, q2⟩ := leOb_ok hle (R.ob _ _ ho') hg
            exact ⟨q1, hid, .inr ⟨i', o', ho', q2.symm, by unfold blk; rw [hg], .inl hr⟩⟩
          · exact hle.elim
        · rename_i hr
          have hb : blk (renG γ m h.hp) i = none := by unfold blk renG; rw [hr]; rfl
          refine ⟨?_, hid, .inl hb⟩
          unfold nilOb at hle
          split at hle
          · rename_i e k xs
            have hx : xs = [] := List.eq_nil_of_length_eq_zero hle.out
            subst hx
            have hg : renG γ m h.hp i = ⟨none, 0, 0, k.size, undef⟩ := by unfold renG; rw [hr, hl]
            refine ⟨by rw [hg], by rw [hg]; rfl, ?_⟩
            rw [hg]
            exact World.ownsRow_nil _ _ _ _
          · exact hle.elim
        · rename_i hr
          split at hle
          · rename_i o' ho'
            obtain ⟨q1, q2⟩ := leOb_ok hle (R.ob _ _ ho') (hg0 i hr)
            exact ⟨q1, hid, .inr ⟨i, o', ho', q2.symm, by unfold blk; rw [hg0 i hr], .inr ⟨hr, rfl, List.mem_append.2 (.inl (same_mem (lookO_key hl) hr))⟩⟩⟩
          · exact hle.elim
      · split at ho
        · rename_i hk
          have hk := elemB_true.1 hk
          have hle := leK_get h3 hk
          have hi0 := keepIds i hk
          have hr := unren i hi0
          split at hle
          · rename_i o1 o2 ho1 ho2
            rw [ho] at ho2
            cases ho2
            obtain ⟨q1, q2⟩ := leOb_ok hle (R.ob _ _ ho1) (hg0 i hr)
            exact ⟨q1, hidsT i hi0, .inr ⟨i, o1, ho1, q2.symm, by unfold blk; rw [hg0 i hr], .inr ⟨hr, rfl, List.mem_append.2 (.inr hk)⟩⟩⟩
          · exact hle.elim
        · cases ho
    refine ⟨renG γ m h.hp, ?_, R.sz, R.df, fun i o ho => (obj i o ho).1, fun i o ho => (obj i o ho).2.1, ?_, ?_, R.kept, fun i hi => ⟨hidsT i (hI i hi), (hg0 i (unren i (hI i hi))).trans (R.base i hi).2⟩⟩
    · intro j
      show denV _ _ (match elemB j ds with | true => (match lookS j h.fr with | some v => v | none => .sc .any) | false => st0.fr j) _
      split
      · split
        · rename_i v hv
          exact leSV_ok (leF_get h1 hv) (R.fr j)
        · trivial
      · rename_i hj
        have hj := elemB_false.1 hj
        have hd := R.fr j
        rw [hfr j hj] at hd
        exact denV_on hd fun i hi => ⟨hidsT i (hW0 j i hi), hg0 i (unren i (hW0 j i hi))⟩
    · intro i j o p b ho hp hb1 hb2
      obtain ⟨_, _, c1⟩ := obj i o ho
      obtain ⟨_, _, c2⟩ := obj j p hp
      rcases c1 with c1 | ⟨i', o', q1, q2, q3, q4⟩
      · rw [hb1] at c1; cases c1
      rcases c2 with c2 | ⟨j', p', r1, r2, r3, r4⟩
      · rw [hb2] at c2; cases c2
      rw [q3] at hb1
      rw [r3] at hb2
      rcases R.sep i' j' o' p' b q1 r1 hb1 hb2 with e | ⟨e1, e2⟩
      · left
        have hdis := (List.nodup_append.1 d1)
        rcases q4 with q4 | ⟨q4, rfl, q5⟩ <;> rcases r4 with r4 | ⟨r4, rfl, r5⟩
        · subst e
          exact lookR_inj hdis.1 q4 r4
        · exact (hdis.2.2 _ (lookR_target q4) _ r5 e).elim
        · exact (hdis.2.2 _ (lookR_target r4) _ q5 e.symm).elim
        · exact e
      · right
        rw [← q2, ← r2]
        exact ⟨e1, e2⟩
    · intro i o b ho hw hb
      obtain ⟨_, _, c1⟩ := obj i o ho
      rcases c1 with c1 | ⟨i', o', q1, q2, q3, q4⟩
      · rw [hb] at c1; cases c1
      · exact R.lo i' o' b q1 (by rw [q2]; exact hw) (by rw [← q3]; exact hb)
  · exact hf.elim
end Go.Vx
namespace Go.Vx
set_option linter.unusedSimpArgs false
set_option linter.unusedVariables false
open Go Go.RowKit

/-- The slots that are not written are as they were. -/
def Same (ds : List Nat) (st st' : St) : Prop := ∀ j, j ∉ ds → st'.fr j = st.fr j

section
variable {P : Program} {E : Env} {X : Cx}

theorem outK_frame {d : Option Nat} {out : Out} {K : St → Prop} {st : St} (h : outK d out K st) : outK d out (fun s => K s ∧ ∀ j, d ≠ some j → s.fr j = st.fr j) st := by
  obtain ⟨p, v, us, h1, h2, h3⟩ := h
  refine ⟨p, v, us, h1, h2, h3, fun j hj => ?_⟩
  cases d with
  | none => rfl
  | some d => exact upd_ne _ _ fun e => hj (by rw [e])

def dsO (ops : List Oper) : List Nat := ops.filterMap (·.dst)

theorem dsO_mem {ops : List Oper} {o : Oper} {j : Nat} (ho : o ∈ ops) (hj : j ∉ dsO ops) : o.dst ≠ some j := fun e => hj (List.mem_filterMap.2 ⟨o, ho, e⟩)

theorem Rel.lit {st : St} {a : Act} {w : World} {γ : Nat → Gh} (R : Rel X st a w γ) {g : Nat} {b : Bool} (hg : st.fr g = .sc (.bool b)) : Rel X ⟨upd st.fr g (.sc (.lit b)), st.hp, st.ids⟩ a w γ := by
  refine ⟨fun j => ?_, R.sz, R.df, R.ob, R.id, R.sep, R.lo, R.kept, R.base⟩
  show denV st.ids γ (upd st.fr g (.sc (.lit b)) j) _
  by_cases hj : j = g
  · subst hj
    rw [upd_same]
    have := R.fr j
    rw [hg] at this
    exact this
  · rw [upd_ne _ _ hj]
    exact R.fr j

theorem vcG2_out {n : Nat} {all : List Oper} {guard : Option (Nat × Bool)} {dst : Option Nat} {run : (St → Prop) → St → Prop} {out : St → Out} {K : St → Prop} {st : St} {a : Act} {w : World} {γ : Nat → Gh}
    (hrun : ∀ s, run K s → outK dst (out s) K s) (R : Rel X st a w γ) (h : vcG2 n all guard dst run K st) : ∃ s, Rel X s a w γ ∧ Same (dsO all) st s ∧ s.hp = st.hp ∧ outK dst (gOut n all guard dst out s) K s := by
  unfold vcG2 at h
  unfold gOut gOn
  split at h
  · exact ⟨st, R, fun _ _ => rfl, rfl, hrun _ h⟩
  · rename_i j want
    split at h
    · rename_i g hg
      have hin : ∀ {b : Bool}, Same (dsO all) st ⟨upd st.fr g (.sc (.lit b)), st.hp, st.ids⟩ := fun j hj => upd_ne _ _ fun e => by
        subst e
        unfold gslot at hg
        split at hg
        · rename_i o ho; exact dsO_mem (List.mem_of_getElem? ho) hj hg
        · cases hg
      simp only [hg]
      split at h
      · rename_i b hb
        refine ⟨st, R, fun _ _ => rfl, rfl, ?_⟩
        simp only [hb]
        cases b <;> cases want <;> first | exact hrun _ h | exact skip_out h
      · rename_i hb
        refine ⟨st, R, fun _ _ => rfl, rfl, ?_⟩
        simp only [hb]
        exact skip_out h
      · rename_i b hb
        refine ⟨_, R.lit hb, hin, rfl, ?_⟩
        simp only [upd_same]
        cases want
        · cases b
          · exact hrun _ (h.1 rfl)
          · exact skip_out (h.2 rfl)
        · cases b
          · exact skip_out (h.2 rfl)
          · exact hrun _ (h.1 rfl)
      · exact h.elim
    · exact h.elim

theorem ops_ok2 (hE : EnvOk P E X) (hX : X.n = E.n) {ops : Array Oper} {K : St → Prop} {Q : Exit → Act → World → Prop} {st0 : St}
    (hK : ∀ st' a' w' γ', Rel X st' a' w' γ' → Same (dsO ops.toList) st0 st' → K st' → Q .normal a' w') :
    ∀ (l : List Oper) (k : Nat), (∀ j, l[j]? = ops[k + j]?) → ∀ (st : St) (a : Act) (w : World) (γ : Nat → Gh), Same (dsO ops.toList) st0 st → Rel X st a w γ → vcOps E ops.toList K l st → wpOps P ops Q (List.range' k l.length) a w
  | [], k, _, st, a, w, γ, hS, R, h => hK _ _ _ _ R hS h
  | o :: l, k, hl, st, a, w, γ, hS, R, h => by
    have h0 : ops[k]? = some o := by simpa using (hl 0).symm
    have hm : o ∈ ops.toList := by
      rw [← Array.getElem?_toList] at h0
      exact List.mem_of_getElem? h0
    simp only [List.length_cons, List.range'_succ, wpOps, h0]
    obtain ⟨st1, R1, hS1, _, hg1⟩ := vcG2_out (out := fun st => rawOut E st.hp (fun _ => true) o.dst o.op st) (fun s h => vcOp_out h) R h
    have hg := outK_frame hg1
    have hS : Same (dsO ops.toList) st0 st1 := fun j hj => (hS1 j hj).trans (hS j hj)
    have := opG_ok hE hX (ops := ops) R1 (hr := st1.hp) (fun i o h => h) (Q := Q) (K' := wpOps P ops Q (List.range' (k + 1) l.length)) hg (fun st' a' w' γ' R' h' =>
      ops_ok2 hE hX hK l (k + 1) (fun j => by have := hl (j + 1); simpa [Nat.add_assoc, Nat.add_comm 1 j] using this) st' a' w' γ' (fun j hj => (h'.2 j (dsO_mem hm hj)).trans (hS j hj)) R' h'.1)
    split
    · rename_i hw
      rw [if_pos hw] at this
      exact .inl this
    · rename_i hw
      rw [if_neg hw] at this
      exact this

theorem aStep_frame {ops : List Oper} {fps : List Fp} {i : Nat} {K : St → Prop} {st st0 : St} (hS : Same (dsO ops) st0 st) (h : aStep E ops fps i K st) : aStep E ops fps i (fun s => K s ∧ Same (dsO ops) st0 s) st := by
  unfold aStep at *
  split
  · rename_i o fp h1 h2
    rw [h1, h2] at h
    obtain ⟨p, v, us, q1, q2, q3, q4⟩ := outK_frame h
    exact ⟨p, v, us, q1, q2, q3, fun j hj => (q4 j (dsO_mem (List.mem_of_getElem? h1) hj)).trans (hS j hj)⟩
  · rename_i hn
    split at h
    · rename_i o fp h1 h2; exact (hn o fp h1 h2).elim
    · exact h.elim

theorem wpAnyA_frame {ops : Array Oper} {fps : List Fp} {K : St → Prop} {st0 : St} : ∀ (fuel : Nat) (listed : Array Bool) (st : St), Same (dsO ops.toList) st0 st → wpAnyA E ops fps K fuel listed st →
    wpAnyA E ops fps (fun s => K s ∧ Same (dsO ops.toList) st0 s) fuel listed st
  | 0, _, _, hS, h => ⟨h.1, h.2, hS⟩
  | fuel + 1, listed, st, hS, h => ⟨fun h0 => ⟨h.1 h0, hS⟩, fun i hi => aStep_mono (fun s hs => wpAnyA_frame fuel _ s hs.2 hs.1) (aStep_frame hS (h.2 i hi))⟩

theorem region_draw_ok2 (hE : EnvOk P E X) (hX : X.n = E.n) (hm : P.follows .mixedOrders = true) {id : Nat} {ops : Array Oper} {fps : List Fp} {K : St → Prop} {Q : Exit → Act → World → Prop}
    {st : St} {a : Act} {w : World} {γ : Nat → Gh} (hK : ∀ st' a' w' γ', Rel X st' a' w' γ' → Same (dsO ops.toList) st st' → K st' → Q .normal a' w') (R : Rel X st a w γ) (hlen : fps.length = ops.size) (hc : confOk ops.toList fps = true) (h : vcOpsF E ops.toList K ops.toList fps st) : (Code.region id ops true).wp P Q a w := by
  unfold confOk at hc
  simp only [Bool.and_eq_true] at hc
  obtain ⟨⟨_, h1⟩, h2⟩ := hc
  have hA := ancOk_of h1
  have hind := (confFrom_spec h2).1
  have hl := any_lex (K := K) hA hlen (fun i j x y fx fy hij hx hfx hy hfy hn => hind i j x y fx fy hij hx hfx hy hfy (by simpa using hn)) ops.toList fps 0 st (by simp) (fun j => by simp) (fun j => by simp) h
  rw [firstN_zero] at hl
  have hl := wpAnyA_frame (st0 := st) _ _ st (fun _ _ => rfl) hl
  have R' : Rel X st a { w with drawn := w.drawn + 1 } γ := by
    refine ⟨R.fr, R.sz, R.df, fun i o ho => ?_, R.id, R.sep, R.lo, ⟨R.kept.os, R.kept.tape, R.kept.output, R.kept.size, R.kept.block⟩, R.base⟩
    exact (R.ob i o ho).keep (Wider.refl _ _) (R.id i o ho) (Nat.le_refl _) fun _ _ => rfl
  refine wp_region_any hm ?_
  have := any_ok hE hX (Q := Q) (fun st' a' w' γ' R' hk => hK st' a' w' γ' R' hk.2 hk.1) _ _ st a _ γ R' hl
  simpa using this

def KnOk (kn : List (Nat × Bool)) (st : St) : Prop := ∀ p ∈ kn, ∀ b, st.fr p.1 = .sc (.bool b) → b = p.2

theorem lookB_mem : ∀ {kn : List (Nat × Bool)} {g : Nat} {v : Bool}, lookB g kn = some v → (g, v) ∈ kn
  | [], _, _, h => by cases h
  | (i, b) :: r, g, v, h => by
    unfold lookB at h
    split at h
    · rename_i e
      have := Nat.eq_of_beq_eq_true e
      subst this
      cases h
      exact List.mem_cons_self
    · exact List.mem_cons_of_mem _ (lookB_mem h)

theorem dropB_mem : ∀ {kn : List (Nat × Bool)} {d : Option Nat} {p : Nat × Bool}, p ∈ dropB d kn → p ∈ kn ∧ d ≠ some p.1
  | [], _, _, h => by cases h
  | (i, b) :: r, d, p, h => by
    unfold dropB at h
    split at h
    · rcases List.mem_cons.1 h with rfl | h
      · exact ⟨List.mem_cons_self, fun e => by cases e⟩
      · obtain ⟨h1, h2⟩ := dropB_mem h
        exact ⟨List.mem_cons_of_mem _ h1, h2⟩
    · rename_i j
      split at h
      · obtain ⟨h1, h2⟩ := dropB_mem h
        exact ⟨List.mem_cons_of_mem _ h1, h2⟩
      · rename_i e
        rcases List.mem_cons.1 h with rfl | h
        · exact ⟨List.mem_cons_self, fun h => by cases h; simp at e⟩
        · obtain ⟨h1, h2⟩ := dropB_mem h
          exact ⟨List.mem_cons_of_mem _ h1, h2⟩

theorem KnOk.next {kn : List (Nat × Bool)} {st s : St} {d : Option Nat} (h : KnOk kn st) (hs : ∀ j, d ≠ some j → s.fr j = st.fr j) : KnOk (dropB d kn) s := fun p hp b hb => by
  obtain ⟨h1, h2⟩ := dropB_mem hp
  rw [hs _ h2] at hb
  exact h p h1 b hb

theorem KnOk.cons {kn : List (Nat × Bool)} {st : St} {g : Nat} {b v : Bool} (h : KnOk kn st) (hg : st.fr g = .sc (.bool b)) (hb : b = v) : KnOk ((g, v) :: kn) st := fun p hp b' hb' => by
  rcases List.mem_cons.1 hp with rfl | hp
  · simp only at hb'
    rw [hg] at hb'
    cases hb'
    exact hb
  · exact h p hp b' hb'

theorem put_fr (st : St) (d : Option Nat) (v : SV) (us : List Up) : ∀ j, d ≠ some j → (st.put d v us).fr j = st.fr j := fun j hj => by
  cases d with
  | none => rfl
  | some d => exact upd_ne _ _ fun e => hj (by rw [e])

theorem vcOpF_imp {fp : Fp} {dst : Option Nat} {op : Op} {K K' : St → Prop} {st : St} (h : vcOpF E fp dst op K st) (hK : ∀ s, (∀ j, dst ≠ some j → s.fr j = st.fr j) → K s → K' s) : vcOpF E fp dst op K' st := by
  unfold vcOpF at *
  split
  · rename_i ps v us h1 h2
    rw [h1, h2] at h
    simp only at h
    split
    · rename_i h3 h4
      rw [h3, h4] at h
      simp only at h
      rw [force_v, force_u, putK_eq] at *
      have : ∀ {ps : List Prop} {p q : Prop}, (p → q) → andAll ps p → andAll ps q := by
        intro ps
        induction ps with
        | nil => intro p q h1 h2; exact h1 h2
        | cons x r ih => intro p q h1 h2; exact ⟨h2.1, ih h1 h2.2⟩
      exact this (hK _ (put_fr _ _ _ _)) h
    · rename_i hn
      split at h
      · rename_i h3 h4; exact (hn h3 h4).elim
      · exact h
  · rename_i hn
    split at h
    · rename_i ps v us h1 h2; exact (hn ps v us h1 h2).elim
    · exact h

theorem skipK_imp {n : Nat} {dst : Option Nat} {K K' : St → Prop} {st : St} (h : skipK n dst K st) (hK : ∀ s, (∀ j, dst ≠ some j → s.fr j = st.fr j) → K s → K' s) : skipK n dst K' st := by
  unfold skipK at *
  split
  · rename_i h1
    rw [h1] at h
    simp only at h
    rw [putK_eq] at *
    exact hK _ (put_fr _ _ _ _) h
  · rename_i h1
    rw [h1] at h
    exact h

theorem vcOpsK_ok {all : List Oper} {K : St → Prop} : ∀ {l : List Oper} {kn : List (Nat × Bool)} {fps : List Fp} {st : St}, KnOk kn st → vcOpsK E all K l kn fps st → vcOpsF E all K l fps st
  | [], _, _, _, _, h => h
  | ⟨_, _, _, _, _, _⟩ :: _, _, [], _, _, h => h.elim
  | ⟨dst, op, ty, pos, after, guard⟩ :: r, kn, fp :: fps, st, hk, h => by
    simp only [vcOpsF, vcG]
    rw [vcOpsK_cons] at h
    have run : ∀ {kn'}, KnOk kn' st → vcOpF E fp dst op (vcOpsK E all K r (dropB dst kn') fps) st → vcOpF E fp dst op (vcOpsF E all K r fps) st := fun hk' h => vcOpF_imp h fun s hs hh => vcOpsK_ok (hk'.next hs) hh
    have skip : ∀ {kn'}, KnOk kn' st → skipK E.n dst (vcOpsK E all K r (dropB dst kn') fps) st → skipK E.n dst (vcOpsF E all K r fps) st := fun hk' h => skipK_imp h fun s hs hh => vcOpsK_ok (hk'.next hs) hh
    cases guard with
    | none => exact run hk h
    | some jw =>
      obtain ⟨j, want⟩ := jw
      simp only at h ⊢
      split at h
      · rename_i g hg
        split at h
        · rename_i b hb
          cases b <;> cases want <;> first | exact run hk h | exact skip hk h
        · rename_i hb
          exact skip hk h
        · rename_i b hb
          split at h
          · rename_i v hv
            have hbv : b = v := hk _ (lookB_mem hv) b hb
            subst hbv
            cases b <;> cases want
            · exact ⟨fun _ => run hk h, fun e => by cases e⟩
            · exact ⟨fun e => (by cases e), fun _ => skip hk h⟩
            · exact ⟨fun e => (by cases e), fun _ => skip hk h⟩
            · exact ⟨fun _ => run hk h, fun e => by cases e⟩
          · cases want
            · exact ⟨fun e => run (hk.cons hb e) (h.1 e), fun e => skip (hk.cons hb e) (h.2 e)⟩
            · exact ⟨fun e => run (hk.cons hb e) (h.1 e), fun e => skip (hk.cons hb e) (h.2 e)⟩
        · exact h.elim
      · exact h.elim

theorem Same.trans {d1 d2 d : List Nat} {a b c : St} (h1 : Same d1 a b) (h2 : Same d2 b c) (s1 : ∀ j ∈ d1, j ∈ d) (s2 : ∀ j ∈ d2, j ∈ d) : Same d a c := fun j hj =>
  (h2 j fun h => hj (s2 j h)).trans (h1 j fun h => hj (s1 j h))

/-- **The code of a function.** -/
theorem vc_ok (hE : EnvOk P E X) (hX : X.n = E.n) (hm : P.follows .mixedOrders = true) : ∀ (c : Code) {K : Exit → St → Prop} {Q : Exit → Act → World → Prop} {st : St} {a : Act} {w : World} {γ : Nat → Gh},
    Rel X st a w γ → vc E c K st → (∀ e st' a' w' γ', Rel X st' a' w' γ' → Same (dsts c) st st' → K e st' → Q e a' w') → c.wp P Q a w := by
  intro c
  induction c with
  | skip => intro K Q st a w γ R h hK; exact wp_skip (hK _ _ _ _ _ R (fun _ _ => rfl) h)
  | seq x y ihx ihy =>
    intro K Q st a w γ R h hK
    refine wp_seq (ihx R h fun e st' a' w' γ' R' hS hk => ?_)
    cases e with
    | normal =>
      refine ihy R' hk fun e st2 a2 w2 γ2 R2 hS2 hk2 => hK _ _ _ _ _ R2 (hS.trans hS2 ?_ ?_) hk2
      · intro j hj; simp only [dsts, List.mem_append]; exact .inl hj
      · intro j hj; simp only [dsts, List.mem_append]; exact .inr hj
    | _ => exact hK _ _ _ _ _ R' (fun j hj => hS j fun h => hj (by simp only [dsts, List.mem_append]; exact .inl h)) hk
  | region id ops draw =>
    intro K Q st a w γ R h hK
    cases draw with
    | false =>
      rw [vc_plain] at h
      refine wp_region ?_
      have := ops_ok2 hE hX (ops := ops) (Q := Q) (st0 := st) (fun st' a' w' γ' R' hS hk => hK _ _ _ _ _ R' hS hk) ops.toList 0 (fun j => by simp) st a w γ (fun _ _ => rfl) R h
      rw [List.range_eq_range']
      simpa using this
    | true =>
      rw [vc_draw] at h
      obtain ⟨⟨hc⟩, h⟩ := h
      exact region_draw_ok2 hE hX hm (fun st' a' w' γ' R' hS hk => hK _ _ _ _ _ R' hS hk) R (by rw [fpsOf_length]; simp) hc (vcOpsK_ok (fun _ h => by cases h) h)
  | cond c x y ihx ihy =>
    intro K Q st a w γ R h hK
    have hc := ev_ok R c
    rw [vc_cond] at h
    have hx : ∀ {st'}, Same (dsts x) st st' → Same (dsts (.cond c x y)) st st' := fun hS j hj => hS j fun h => hj (by simp only [dsts, List.mem_append]; exact .inl h)
    have hy : ∀ {st'}, Same (dsts y) st st' → Same (dsts (.cond c x y)) st st' := fun hS j hj => hS j fun h => hj (by simp only [dsts, List.mem_append]; exact .inr h)
    split at h
    · rename_i heq
      rw [heq] at hc
      exact wp_cond_true hc (ihx R h fun e st' a' w' γ' R' hS hk => hK _ _ _ _ _ R' (hx hS) hk)
    · rename_i heq
      rw [heq] at hc
      exact wp_cond_false hc (ihy R h fun e st' a' w' γ' R' hS hk => hK _ _ _ _ _ R' (hy hS) hk)
    · rename_i t heq
      rw [heq] at hc
      refine wp_cond_split hc (fun ht => ihx R (h.1 ht) fun e st' a' w' γ' R' hS hk => hK _ _ _ _ _ R' (hx hS) hk) (fun ht => ihy R (h.2 ht) fun e st' a' w' γ' R' hS hk => hK _ _ _ _ _ R' (hy hS) hk)
    · exact h.elim
  | block id c ih =>
    intro K Q st a w γ R h hK
    rw [vc_block] at h
    refine wp_block (ih R h fun e st' a' w' γ' R' hS hk => ?_)
    cases e with
    | exit i =>
      simp only [exitK] at hk
      simp only [Exit.inBlock]
      split at hk
      · rename_i e
        rw [if_pos (Nat.eq_of_beq_eq_true e)]
        exact hK _ _ _ _ _ R' hS hk
      · rename_i e
        rw [if_neg (fun h => by rw [h] at e; simp at e)]
        exact hK _ _ _ _ _ R' hS hk
    | _ => exact hK _ _ _ _ _ R' hS hk
  | loop c ih =>
    intro K Q st a w γ R h hK
    rw [vc_loop] at h
    obtain ⟨α, H, Φ, μ, ⟨x0, hx0, hf0⟩, hround⟩ := h
    have hW0 : ∀ j, ∀ i ∈ idsSV (st.fr j), st.ids i = true := fun j => denV_refs (R.fr j)
    have hfr : ∀ x j, j ∉ dsts c → ((H x).st (dsts c) st).fr j = st.fr j := fun x j hj => by
      show (match elemB j (dsts c) with | true => _ | false => st.fr j) = st.fr j
      rw [elemB_false.2 hj]
    refine wp_loop_ghost (fun n a w => ∃ x γ', Φ x ∧ μ x = n ∧ Rel X ((H x).st (dsts c) st) a w γ') (μ x0) ?_ ?_
    · obtain ⟨γ', R'⟩ := fits_ok hf0 (fun _ _ => rfl) (fun i hi => (R.base i hi).1) hW0 R
      exact ⟨x0, γ', hx0, rfl, R'⟩
    · rintro n a w ⟨x, γ', hx, rfl, R'⟩
      refine ih R' (hround x hx) fun e st' a' w' γ2 R2 hS hk => ?_
      have hS' : Same (dsts (.loop c)) st st' := fun j hj => (hS j hj).trans (hfr x j hj)
      cases e with
      | normal =>
        obtain ⟨x', hx', hlt, hf⟩ := hk
        obtain ⟨γ3, R3⟩ := fits_ok hf hS' (fun i hi => (R.base i hi).1) hW0 R2
        exact ⟨μ x', hlt, x', γ3, hx', rfl, R3⟩
      | _ => exact hK _ _ _ _ _ R2 hS' hk
  | exit i => intro K Q st a w γ R h hK; exact wp_exit (hK _ _ _ _ _ R (fun _ _ => rfl) h)
  | ret => intro K Q st a w γ R h hK; exact wp_ret (hK _ _ _ _ _ R (fun _ _ => rfl) h)
  | _ => intro K Q st a w γ R h hK; exact h.elim

end
end Go.Vx
