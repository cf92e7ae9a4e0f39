/- The head of a loop. -/
import Derived.Test.YtalgocopemmelaaGreatDoorVxLex
import Derived.Deep.LoopGhost
namespace Go.Vx
set_option linter.unusedSimpArgs false
set_option linter.unusedVariables false
open Go Go.RowKit

theorem lookR_key : ∀ {m : Ren} {i : Nat} {x : Option Nat}, lookR i m = some x → i ∈ keysR m
  | [], _, _, h => by cases h
  | (k, v) :: r, i, x, h => by
    unfold lookR at h
    split at h
    · rename_i e; simp [keysR, Nat.eq_of_beq_eq_true e]
    · exact List.mem_cons_of_mem _ (lookR_key h)

theorem lookR_target : ∀ {m : Ren} {i x : Nat}, lookR i m = some (some x) → x ∈ targets m
  | [], _, _, h => by cases h
  | (k, v) :: r, i, x, h => by
    unfold lookR at h
    split at h
    · cases h; simp [targets]
    · have ih := lookR_target h
      cases v with
      | none => simpa [targets] using ih
      | some y => simp only [targets]; exact List.mem_cons_of_mem _ ih

theorem lookR_inj : ∀ {m : Ren} {i j x : Nat}, (targets m).Nodup → lookR i m = some (some x) → lookR j m = some (some x) → i = j
  | [], _, _, _, _, h, _ => by cases h
  | (k, v) :: r, i, j, x, hn, h1, h2 => by
    unfold lookR at h1 h2
    have hr : (targets r).Nodup := by
      cases v with
      | none => simpa [targets] using hn
      | some y => simp only [targets, List.nodup_cons] at hn; exact hn.2
    cases e1 : Nat.beq i k <;> cases e2 : Nat.beq j k <;> simp only [e1, e2] at h1 h2
    · exact lookR_inj hr h1 h2
    · cases h2
      simp only [targets, List.nodup_cons] at hn
      exact (hn.1 (lookR_target h1)).elim
    · cases h1
      simp only [targets, List.nodup_cons] at hn
      exact (hn.1 (lookR_target h2)).elim
    · rw [Nat.eq_of_beq_eq_true e1, Nat.eq_of_beq_eq_true e2]

theorem lookO_key : ∀ {l : List (Nat × Ob)} {i : Nat} {o : Ob}, lookO i l = some o → i ∈ keysO l
  | [], _, _, h => by cases h
  | (k, v) :: r, i, o, h => by
    unfold lookO at h
    split at h
    · rename_i e; simp [keysO, Nat.eq_of_beq_eq_true e]
    · exact List.mem_cons_of_mem _ (lookO_key h)

theorem key_lookO : ∀ {l : List (Nat × Ob)} {i : Nat}, i ∈ keysO l → ∃ o, lookO i l = some o
  | [], _, h => by cases h
  | (k, v) :: r, i, h => by
    unfold lookO
    split
    · exact ⟨v, rfl⟩
    · rename_i e
      rcases List.mem_cons.1 h with rfl | h
      · simp at e
      · exact key_lookO h

theorem same_mem {m : Ren} : ∀ {l : List Nat} {i : Nat}, i ∈ l → lookR i m = none → i ∈ same m l
  | [], _, h, _ => by cases h
  | k :: r, i, h, hn => by
    unfold same
    rcases List.mem_cons.1 h with rfl | h
    · rw [hn]; exact List.mem_cons_self
    · split
      · exact List.mem_cons_of_mem _ (same_mem h hn)
      · exact same_mem h hn

theorem allB_spec {f : Nat → Bool} : ∀ {l : List Nat}, allB f l = true → ∀ i ∈ l, f i = true
  | [], _, _, h => by cases h
  | k :: r, h, i, hi => by
    unfold allB at h
    split at h
    · rename_i e
      rcases List.mem_cons.1 hi with rfl | hi
      · exact e
      · exact allB_spec h i hi
    · cases h

theorem noneB_spec {f : Nat → Bool} : ∀ {l : List Nat}, noneB f l = true → ∀ i ∈ l, f i = false
  | [], _, _, h => by cases h
  | k :: r, h, i, hi => by
    unfold noneB at h
    split at h
    · cases h
    · rename_i e
      rcases List.mem_cons.1 hi with rfl | hi
      · exact e
      · exact noneB_spec h i hi

theorem leH_get {m : Ren} {ids : Nat → Bool} {st : St} : ∀ {l : List (Nat × Ob)} {i : Nat} {o : Ob}, leH m ids st l → lookO i l = some o →
    (match lookR i m with
      | some (some i') => match st.hp i' with | some o' => leOb m ids o' o | none => False
      | some none => nilOb o
      | none => match st.hp i with | some o' => leOb m ids o' o | none => False)
  | [], _, _, _, h => by cases h
  | (k, v) :: r, i, o, hl, h => by
    unfold lookO at h
    split at h
    · rename_i e
      have := Nat.eq_of_beq_eq_true e
      subst this
      cases h
      exact hl.1
    · exact leH_get hl.2 h

theorem leK_get {m : Ren} {ids : Nat → Bool} {st st0 : St} : ∀ {l : List Nat} {i : Nat}, leK m ids st st0 l → i ∈ l → (match st.hp i, st0.hp i with | some o, some o' => leOb m ids o o' | _, _ => False)
  | [], _, _, h => by cases h
  | k :: r, i, hl, h => by
    rcases List.mem_cons.1 h with rfl | h
    · exact hl.1
    · exact leK_get hl.2 h

theorem leF_get {m : Ren} {ids : Nat → Bool} {st : St} : ∀ {l : List (Nat × SV)} {j : Nat} {v : SV}, leF m ids st l → lookS j l = some v → leSV m ids (st.fr j) v
  | [], _, _, _, h => by cases h
  | (k, x) :: r, j, v, hl, h => by
    unfold lookS at h
    split at h
    · rename_i e
      have := Nat.eq_of_beq_eq_true e
      subst this
      cases h
      exact hl.1
    · exact leF_get hl.2 h

/-- what the new names stand for -/
def renG (γ : Nat → Gh) (m : Ren) (hp : List (Nat × Ob)) : Nat → Gh := fun i =>
  match lookR i m with
  | some (some i') => γ i'
  | some none => ⟨none, 0, 0, match lookO i hp with | some (.row _ k _) => k.size | _ => 0, undef⟩
  | none => γ i

section
variable {ids ids' : Nat → Bool} {γ : Nat → Gh} {m : Ren} {hp : List (Nat × Ob)}

theorem den_refs {s : Sc} {v : Value} (h : den ids γ s v) : ∀ i ∈ idsSc s, ids i = true := by
  intro i hi
  cases s <;> simp [idsSc] at hi
  case ref => rw [hi]; exact h.1
  case eref => rw [hi]; exact h.1
  case vw => rw [hi]; exact h.1
  case clo => rw [hi]; exact h.1
  case own => rw [hi]; exact h.1
  case fn f c =>
    obtain ⟨vs, _, hc⟩ := h
    obtain ⟨x, hx⟩ := hi
    have : ∀ {c : List (Nat × Nat)} {vs : List Value}, denCap ids γ c vs → ∀ p ∈ c, ids p.1 = true := by
      intro c
      induction c with
      | nil => intro vs _ p hp; cases hp
      | cons q r ih =>
        intro vs h p hp
        cases vs with
        | nil => exact h.elim
        | cons u t =>
          rcases List.mem_cons.1 hp with rfl | hp
          · exact h.1.1
          · exact ih h.2 p hp
    exact this hc _ hx

theorem denL_refs : ∀ {cs : List Sc} {vs : List Value}, denL ids γ cs vs → ∀ i ∈ cs.flatMap idsSc, ids i = true
  | [], [], _, i, h => by simp at h
  | s :: r, v :: t, h, i, hi => by
    simp only [List.flatMap_cons, List.mem_append] at hi
    rcases hi with hi | hi
    · exact den_refs h.1 i hi
    · exact denL_refs h.2 i hi
  | [], _ :: _, h, _, _ => h.elim
  | _ :: _, [], h, _, _ => h.elim

theorem denV_refs {x : SV} {v : Value} (h : denV ids γ x v) : ∀ i ∈ idsSV x, ids i = true := by
  cases x with
  | sc s => exact den_refs h
  | ag cs => obtain ⟨vs, _, hc⟩ := h; exact denL_refs hc
  | tp xs =>
    obtain ⟨us, _, hd⟩ := h
    have : ∀ {xs : List (Bool × List Sc)} {us : List Value}, denT ids γ xs us → ∀ i ∈ xs.flatMap fun p => p.2.flatMap idsSc, ids i = true := by
      intro xs
      induction xs with
      | nil => intro us _ i hi; simp at hi
      | cons p r ih =>
        intro us h i hi
        cases us with
        | nil => exact h.elim
        | cons u t =>
          simp only [List.flatMap_cons, List.mem_append] at hi
          rcases hi with hi | hi
          · obtain ⟨⟨vs, _, hc⟩, _⟩ := h
            exact denL_refs hc i hi
          · exact ih h.2 i hi
    exact this hd

/-- By names that are the same for all that is spoken of. -/
theorem den_on {γ' : Nat → Gh} {s : Sc} {v : Value} (h : den ids γ s v) (hs : ∀ i ∈ idsSc s, ids' i = true ∧ γ' i = γ i) : den ids' γ' s v := by
  have hW : Wider (fun i => ids i && decide (i ∈ idsSc s)) ids' γ γ' := ⟨fun i hi => by simp at hi; exact (hs i hi.2).1, fun i hi => by simp at hi; exact (hs i hi.2).2⟩
  refine den_wider hW ?_
  have hr := den_refs h
  cases s with
  | ref i o => exact ⟨by simp [h.1, idsSc], h.2⟩
  | eref i j o => exact ⟨by simp [h.1, idsSc], h.2⟩
  | vw i o l => exact ⟨by simp [h.1, idsSc], h.2⟩
  | own i => exact ⟨by simp [h.1, idsSc], h.2⟩
  | clo i => exact ⟨by simp [h.1, idsSc], h.2⟩
  | fn f c =>
    obtain ⟨vs, hv, hc⟩ := h
    refine ⟨vs, hv, ?_⟩
    have : ∀ {c' : List (Nat × Nat)} {vs : List Value}, (∀ p ∈ c', p ∈ c) → denCap ids γ c' vs → denCap (fun i => ids i && decide (i ∈ idsSc (.fn f c))) γ c' vs := by
      intro c'
      induction c' with
      | nil => intro vs _ h; cases vs <;> first | trivial | exact h.elim
      | cons q r ih =>
        intro vs hq h
        cases vs with
        | nil => exact h.elim
        | cons u t => exact ⟨⟨by simp only [h.1.1, Bool.true_and, idsSc]; exact decide_eq_true (List.mem_map_of_mem (f := fun x => x.1) (hq q List.mem_cons_self)), h.1.2⟩, ih (fun p hp => hq p (List.mem_cons_of_mem _ hp)) h.2⟩
    exact this (fun _ h => h) hc
  | _ => exact h

theorem denL_on {γ' : Nat → Gh} : ∀ {cs : List Sc} {vs : List Value}, denL ids γ cs vs → (∀ i ∈ cs.flatMap idsSc, ids' i = true ∧ γ' i = γ i) → denL ids' γ' cs vs
  | [], [], _, _ => trivial
  | s :: r, v :: t, h, hs => ⟨den_on h.1 fun i hi => hs i (by simp only [List.flatMap_cons, List.mem_append]; exact .inl hi), denL_on h.2 fun i hi => hs i (by simp only [List.flatMap_cons, List.mem_append]; exact .inr hi)⟩
  | [], _ :: _, h, _ => h.elim
  | _ :: _, [], h, _ => h.elim

theorem denV_on {γ' : Nat → Gh} {x : SV} {v : Value} (h : denV ids γ x v) (hs : ∀ i ∈ idsSV x, ids' i = true ∧ γ' i = γ i) : denV ids' γ' x v := by
  cases x with
  | sc s => exact den_on h hs
  | ag cs => obtain ⟨vs, hv, hc⟩ := h; exact ⟨vs, hv, denL_on hc hs⟩
  | tp xs =>
    obtain ⟨us, hv, hd⟩ := h
    refine ⟨us, hv, ?_⟩
    have : ∀ {xs : List (Bool × List Sc)} {us : List Value}, denT ids γ xs us → (∀ i ∈ xs.flatMap fun p => p.2.flatMap idsSc, ids' i = true ∧ γ' i = γ i) → denT ids' γ' xs us := by
      intro xs
      induction xs with
      | nil => intro us h _; cases us <;> first | trivial | exact h.elim
      | cons p r ih =>
        intro us h hs
        cases us with
        | nil => exact h.elim
        | cons u t =>
          obtain ⟨⟨vs, hu, hc⟩, hr⟩ := h
          exact ⟨⟨vs, hu, denL_on hc fun i hi => hs i (by simp only [List.flatMap_cons, List.mem_append]; exact .inl hi)⟩, ih hr fun i hi => hs i (by simp only [List.flatMap_cons, List.mem_append]; exact .inr hi)⟩
    exact this hd hs

theorem leSc_ok {s s' : Sc} {v : Value} (h : leSc m ids' s s') (hd : den ids γ s v) : den ids' (renG γ m hp) s' v := by
  have none_ : ∀ {i}, lookR i m = none → renG γ m hp i = γ i := fun h => by unfold renG; rw [h]
  unfold leSc at h
  split at h
  · trivial
  · split at h
    · rename_i e; rw [← h.out, ← sameK_eq e]; exact hd
    · exact h.elim
  · rw [← h.out]; exact hd
  · rw [← h.out]; exact hd
  · rw [← h.out]; exact hd
  · rw [← h.out]; exact hd
  · split at h
    · rename_i e1 e2
      simp only [Bool.and_eq_true] at e1
      have e3 := Nat.eq_of_beq_eq_true e1.1.1
      have e4 := Nat.eq_of_beq_eq_true e1.1.2
      subst e3; subst e4
      exact ⟨e1.2, by rw [none_ e2]; exact hd.2⟩
    · exact h.elim
  · split at h
    · rename_i e1 e2
      simp only [Bool.and_eq_true] at e1
      have e3 := Nat.eq_of_beq_eq_true e1.1.1
      have e4 := Nat.eq_of_beq_eq_true e1.1.2
      have h := h.out; subst e3; subst e4; subst h
      exact ⟨e1.2, by rw [none_ e2]; exact hd.2⟩
    · exact h.elim
  · split at h
    · rename_i e1 e2
      simp only [Bool.and_eq_true] at e1
      have e3 := Nat.eq_of_beq_eq_true e1.1
      obtain ⟨⟨h1⟩, ⟨h2⟩⟩ := h
      subst e3; subst h1; subst h2
      exact ⟨e1.2, by rw [none_ e2]; exact hd.2⟩
    · exact h.elim
  · split at h
    · rename_i e2 e3
      split at h
      · rename_i e1
        have e4 := Nat.eq_of_beq_eq_true e1
        subst e4
        exact ⟨e3, by rw [none_ e2]; exact hd.2⟩
      · exact h.elim
    · rename_i i' e2 e3
      split at h
      · rename_i e4
        have e4 := Nat.eq_of_beq_eq_true e4
        subst e4
        refine ⟨e3, ?_⟩
        unfold renG
        rw [e2]
        exact hd.2
      · exact h.elim
    · exact h.elim
  · split at h
    · rename_i e2 e3
      refine ⟨e3, ?_⟩
      unfold renG
      rw [e2]
      exact hd
    · exact h.elim
  · exact hd
  · split at h
    · rename_i e
      have e := Nat.eq_of_beq_eq_true e
      subst e
      obtain ⟨vs, hv, hc⟩ := hd
      cases vs with
      | nil => exact ⟨[], hv, trivial⟩
      | cons u t => exact hc.elim
    · exact h.elim
  · exact hd
  · split at h
    · rename_i e1 e2
      simp only [Bool.and_eq_true] at e1
      have e3 := Nat.eq_of_beq_eq_true e1.1
      subst e3
      exact ⟨e1.2, by rw [none_ e2]; exact hd.2⟩
    · exact h.elim
  · have e := h.out
    subst e
    exact hd
  · exact h.elim

theorem leL_ok : ∀ {cs cs' : List Sc} {vs : List Value}, leL m ids' cs cs' → denL ids γ cs vs → denL ids' (renG γ m hp) cs' vs
  | [], [], [], _, _ => trivial
  | a :: r, b :: s, v :: t, h, hd => ⟨leSc_ok h.1 hd.1, leL_ok h.2 hd.2⟩
  | [], [], _ :: _, _, hd => hd.elim
  | _ :: _, _, [], _, hd => hd.elim
  | [], _ :: _, _, h, _ => h.elim
  | _ :: _, [], _, h, _ => h.elim

theorem leSV_ok {x x' : SV} {v : Value} (h : leSV m ids' x x') (hd : denV ids γ x v) : denV ids' (renG γ m hp) x' v := by
  unfold leSV at h
  split at h
  · exact leSc_ok h hd
  · obtain ⟨vs, hv, hc⟩ := hd; exact ⟨vs, hv, leL_ok h hc⟩
  · trivial
  · exact h.elim

theorem leOb_ok {w : World} {i i' : Nat} {o o' : Ob} (h : leOb m ids' o' o) (hd : ObOk ids γ w i' o') (hg : renG γ m hp i = γ i') : ObOk ids' (renG γ m hp) w i o ∧ o.wr = o'.wr := by
  unfold leOb at h
  split at h
  · split at h
    · rename_i e
      have e := Nat.eq_of_beq_eq_true e
      subst e
      obtain ⟨b, vs, ha, hh, hc⟩ := hd
      exact ⟨⟨b, vs, by rw [hg]; exact ha, hh, leL_ok h hc⟩, rfl⟩
    · exact h.elim
  · split at h
    · rename_i e
      have e := Nat.eq_of_beq_eq_true e
      subst e
      obtain ⟨b, vs, ha, hh, hc⟩ := hd
      exact ⟨⟨b, vs, by rw [hg]; exact ha, hh, leL_ok h hc⟩, rfl⟩
    · exact h.elim
  · split at h
    · rename_i e hc
      have e := Nat.eq_of_beq_eq_true e
      subst e
      have h := h.out
      subst h
      obtain ⟨hf, hl, hk⟩ := castL_flat hc
      subst hk
      obtain ⟨h1, h2, h3⟩ := hd
      refine ⟨⟨by rw [hg]; exact h1, by rw [hg, h2, hl], ?_⟩, rfl⟩
      rw [hg, ← hf, ← hl]
      exact h3
    · exact h.elim
  · split at h
    · rename_i hc
      have h := h.out
      subst h
      obtain ⟨hf, hl, hk⟩ := castL_flat hc
      subst hk
      obtain ⟨h1, h2, h3, h4, h5⟩ := hd
      refine ⟨⟨by rw [hg]; exact h1, by rw [hg, h2, hl], by omega, fun ad ha => h4 ad (by rw [← hg]; exact ha), fun hp => ?_⟩, rfl⟩
      obtain ⟨ad, ha, hcell⟩ := h5 (by omega)
      exact ⟨ad, by rw [hg]; exact ha, by rw [← hf]; exact hcell⟩
    · exact h.elim
  · exact h.elim
end

/-- **At the head of a loop.** -/
theorem fits_ok {X : Cx} {h : Head} {ds : List Nat} {st0 st : St} {a : Act} {w : World} {γ : Nat → Gh} (hf : h.fits ds st0 st) (hfr : ∀ j, j ∉ ds → st.fr j = st0.fr j) (hI : ∀ i, X.i0 i = true → st0.ids i = true)
    (hW0 : ∀ j, ∀ i ∈ idsSV (st0.fr j), st0.ids i = true) (R : Rel X st a w γ) : ∃ γ', Rel X (h.st ds st0) a w γ' := by
  unfold Head.fits at hf
  dsimp only at hf
  generalize hm : dropR st0.ids (renH st (renF st [] h.fr) h.hp) = m at hf
  split at hf
  · rename_i hok
    obtain ⟨h1, h2, h3⟩ := hf
    unfold Head.okB at hok
    simp only [Bool.and_eq_true] at hok
    obtain ⟨⟨⟨⟨d1, d2⟩, n1⟩, a1⟩, s1⟩ := hok
    have d1 := distB_true d1
    have d2 := distB_true d2
    have n1 := noneB_spec n1
    have a1 := allB_spec a1
    have s1 := subB_true s1
    have unren : ∀ i, st0.ids i = true → lookR i m = none := fun i hi => by
      cases hq : lookR i m with
      | none => rfl
      | some x => have := n1 i (lookR_key hq); rw [hi] at this; cases this
    have keepIds : ∀ i ∈ h.keep, st0.ids i = true := fun i hi => a1 i (List.mem_append.2 (.inr hi))
    have hg0 : ∀ i, lookR i m = none → renG γ m h.hp i = γ i := fun i hi => by unfold renG; rw [hi]
    have hidsT : ∀ i, st0.ids i = true → (h.st ds st0).ids i = true := fun i hi => by
      show (match lookO i h.hp with | some _ => true | none => st0.ids i) = true
      split
      · rfl
      · exact hi
    -- each object of the head, and what it is now
    have obj : ∀ i o, (h.st ds st0).hp i = some o → ObOk (h.st ds st0).ids (renG γ m h.hp) w i o ∧ (h.st ds st0).ids i = true ∧
        (blk (renG γ m h.hp) i = none ∨ ∃ i' o', st.hp i' = some o' ∧ o'.wr = o.wr ∧ blk (renG γ m h.hp) i = blk γ i' ∧ ((lookR i m = some (some i')) ∨ (lookR i m = none ∧ i' = i ∧ i ∈ same m (keysO h.hp) ++ h.keep))) := by
      intro i o ho
      change (match lookO i h.hp with | some o => some o | none => match elemB i h.keep with | true => st0.hp i | false => none) = some o at ho
      split at ho
      · rename_i o1 hl
        cases ho
        have hle := leH_get h2 hl
        have hid : (h.st ds st0).ids i = true := by
          show (match lookO i h.hp with | some _ => true | none => st0.ids i) = true
          rw [hl]
        split at hle
        · rename_i i' hr
          split at hle
          · rename_i o' ho'
            have hg : renG γ m h.hp i = γ i' := by unfold renG; rw [hr]
            obtain ⟨q1, q2⟩ := leOb_ok hle (R.ob _ _ ho') hg
            exact ⟨q1, hid, .inr ⟨i', o', ho', q2.symm, by unfold blk; rw [hg], .inl hr⟩⟩
          · exact hle.elim
        · rename_i hr
          have hb : blk (renG γ m h.hp) i = none := by unfold blk renG; rw [hr]; rfl
          refine ⟨?_, hid, .inl hb⟩
          unfold nilOb at hle
          split at hle
          · rename_i e k xs
            have hx : xs = [] := List.eq_nil_of_length_eq_zero hle.out
            subst hx
            have hg : renG γ m h.hp i = ⟨none, 0, 0, k.size, undef⟩ := by unfold renG; rw [hr, hl]
            refine ⟨by rw [hg], by rw [hg]; rfl, ?_⟩
            rw [hg]
            exact World.ownsRow_nil _ _ _ _
          · exact hle.elim
        · rename_i hr
          split at hle
          · rename_i o' ho'
            obtain ⟨q1, q2⟩ := leOb_ok hle (R.ob _ _ ho') (hg0 i hr)
            exact ⟨q1, hid, .inr ⟨i, o', ho', q2.symm, by unfold blk; rw [hg0 i hr], .inr ⟨hr, rfl, List.mem_append.2 (.inl (same_mem (lookO_key hl) hr))⟩⟩⟩
          · exact hle.elim
      · split at ho
        · rename_i hk
          have hk := elemB_true.1 hk
          have hle := leK_get h3 hk
          have hi0 := keepIds i hk
          have hr := unren i hi0
          split at hle
          · rename_i o1 o2 ho1 ho2
            rw [ho] at ho2
            cases ho2
            obtain ⟨q1, q2⟩ := leOb_ok hle (R.ob _ _ ho1) (hg0 i hr)
            exact ⟨q1, hidsT i hi0, .inr ⟨i, o1, ho1, q2.symm, by unfold blk; rw [hg0 i hr], .inr ⟨hr, rfl, List.mem_append.2 (.inr hk)⟩⟩⟩
          · exact hle.elim
        · cases ho
    refine ⟨renG γ m h.hp, ?_, R.sz, R.df, fun i o ho => (obj i o ho).1, fun i o ho => (obj i o ho).2.1, ?_, ?_, R.kept, fun i hi => ⟨hidsT i (hI i hi), (hg0 i (unren i (hI i hi))).trans (R.base i hi).2⟩⟩
    · intro j
      show denV _ _ (match elemB j ds with | true => (match lookS j h.fr with | some v => v | none => .sc .any) | false => st0.fr j) _
      split
      · split
        · rename_i v hv
          exact leSV_ok (leF_get h1 hv) (R.fr j)
        · trivial
      · rename_i hj
        have hj := elemB_false.1 hj
        have hd := R.fr j
        rw [hfr j hj] at hd
        exact denV_on hd fun i hi => ⟨hidsT i (hW0 j i hi), hg0 i (unren i (hW0 j i hi))⟩
    · intro i j o p b ho hp hb1 hb2
      obtain ⟨_, _, c1⟩ := obj i o ho
      obtain ⟨_, _, c2⟩ := obj j p hp
      rcases c1 with c1 | ⟨i', o', q1, q2, q3, q4⟩
      · rw [hb1] at c1; cases c1
      rcases c2 with c2 | ⟨j', p', r1, r2, r3, r4⟩
      · rw [hb2] at c2; cases c2
      rw [q3] at hb1
      rw [r3] at hb2
      rcases R.sep i' j' o' p' b q1 r1 hb1 hb2 with e | ⟨e1, e2⟩
      · left
        have hdis := (List.nodup_append.1 d1)
        rcases q4 with q4 | ⟨q4, rfl, q5⟩ <;> rcases r4 with r4 | ⟨r4, rfl, r5⟩
        · subst e
          exact lookR_inj hdis.1 q4 r4
        · exact (hdis.2.2 _ (lookR_target q4) _ r5 e).elim
        · exact (hdis.2.2 _ (lookR_target r4) _ q5 e.symm).elim
        · exact e
      · right
        rw [← q2, ← r2]
        exact ⟨e1, e2⟩
    · intro i o b ho hw hb
      obtain ⟨_, _, c1⟩ := obj i o ho
      rcases c1 with c1 | ⟨i', o', q1, q2, q3, q4⟩
      · rw [hb] at c1; cases c1
      · exact R.lo i' o' b q1 (by rw [q2]; exact hw) (by rw [← q3]; exact hb)
  · exact hf.elim
end Go.Vx
