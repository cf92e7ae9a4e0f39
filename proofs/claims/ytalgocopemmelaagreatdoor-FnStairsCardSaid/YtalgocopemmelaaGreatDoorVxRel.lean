/- The relation between a symbolic state and a frame and a world; how a step keeps it. -/
import Derived.Test.YtalgocopemmelaaGreatDoorVxSem
namespace Go.Vx
set_option linter.unusedSimpArgs false
set_option linter.unusedVariables false
open Go Go.RowKit

structure Cx where
  w0 : World
  Wr : Nat → Prop
  n : Nat
  i0 : Nat → Bool
  g0 : Nat → Gh
  rc : List Nat

structure Rel (X : Cx) (st : St) (a : Act) (w : World) (γ : Nat → Gh) : Prop where
  fr : ∀ j, denV st.ids γ (st.fr j) (a.tmps.getD j undef)
  sz : X.n ≤ a.tmps.size
  df : a.defers = []
  ob : ∀ i o, st.hp i = some o → ObOk st.ids γ w i o
  id : ∀ i o, st.hp i = some o → st.ids i = true
  sep : ∀ i j o p b, st.hp i = some o → st.hp j = some p → blk γ i = some b → blk γ j = some b → i = j ∨ (o.wr = false ∧ p.wr = false)
  lo : ∀ i o b, st.hp i = some o → o.wr = true → blk γ i = some b → X.w0.heap.size ≤ b ∨ X.Wr b
  kept : Kept X.Wr X.w0 w
  base : ∀ i, X.i0 i = true → st.ids i = true ∧ γ i = X.g0 i

theorem upd_same {α : Type} (f : Nat → α) (k : Nat) (v : α) : upd f k v k = v := by simp [upd]
theorem upd_ne {α : Type} (f : Nat → α) {k j : Nat} (v : α) (h : j ≠ k) : upd f k v j = f j := by
  have : Nat.beq j k = false := by cases e : Nat.beq j k <;> simp_all
  simp [upd, this]

theorem elemB_true {j : Nat} : ∀ {l : List Nat}, elemB j l = true ↔ j ∈ l
  | [] => by simp [elemB]
  | i :: r => by
    unfold elemB
    cases e : Nat.beq j i
    · have : j ≠ i := by intro h; subst h; simp at e
      simp [elemB_true (l := r), this]
    · have : j = i := Nat.eq_of_beq_eq_true e
      simp [this]
theorem elemB_false {j : Nat} {l : List Nat} : elemB j l = false ↔ j ∉ l := by
  rw [← elemB_true]; cases elemB j l <;> simp

theorem subB_true : ∀ {l m : List Nat}, subB l m = true → ∀ i ∈ l, i ∈ m
  | [], _, _, _, h => by cases h
  | i :: r, m, h, j, hj => by
    unfold subB at h
    split at h
    · rename_i e
      rcases List.mem_cons.1 hj with rfl | hj
      · exact elemB_true.1 e
      · exact subB_true h j hj
    · cases h

theorem disjB_true : ∀ {l m : List Nat}, disjB l m = true → ∀ i ∈ l, i ∉ m
  | [], _, _, _, h => by cases h
  | i :: r, m, h, j, hj => by
    unfold disjB at h
    split at h
    · cases h
    · rename_i e
      rcases List.mem_cons.1 hj with rfl | hj
      · exact elemB_false.1 e
      · exact disjB_true h j hj

theorem distB_true : ∀ {l : List Nat}, distB l = true → l.Nodup
  | [], _ => List.nodup_nil
  | i :: r, h => by
    unfold distB at h
    split at h
    · cases h
    · rename_i e
      exact List.nodup_cons.2 ⟨elemB_false.1 e, distB_true h⟩

theorem updAll_off : ∀ {us : List Up} {h : Nat → Option Ob} {i : Nat}, i ∉ us.map (·.id) → updAll h us i = h i
  | [], _, _, _ => rfl
  | u :: r, h, i, hn => by
    simp only [List.map_cons, List.mem_cons, not_or] at hn
    simp only [updAll]
    rw [updAll_off hn.2, upd_ne _ _ hn.1]

theorem updAll_on : ∀ {us : List Up} {h : Nat → Option Ob} {u : Up}, (us.map (·.id)).Nodup → u ∈ us → updAll h us u.id = u.ob
  | [], _, _, _, hm => by cases hm
  | v :: r, h, u, hn, hm => by
    simp only [List.map_cons, List.nodup_cons] at hn
    simp only [updAll]
    rcases List.mem_cons.1 hm with rfl | hm
    · rw [updAll_off hn.1, upd_same]
    · exact updAll_on hn.2 hm

theorem updI_true : ∀ {us : List Up} {f : Nat → Bool} {i : Nat}, updI f us i = true ↔ (f i = true ∨ i ∈ us.map (·.id))
  | [], _, _ => by simp [updI]
  | u :: r, f, i => by
    simp only [updI, List.map_cons, List.mem_cons]
    rw [updI_true]
    by_cases h : i = u.id
    · subst h; simp [upd_same]
    · rw [upd_ne _ _ h]; simp [h]

theorem okUps_spec : ∀ {us : List Up} {ids : Nat → Bool}, okUps ids us = true → (us.map (·.id)).Nodup → ∀ u ∈ us, (u.new = true → ids u.id = false) ∧ (u.new = false → ids u.id = true)
  | [], _, _, _, _, hm => by cases hm
  | v :: r, ids, h, hn, u, hm => by
    unfold okUps at h
    simp only [List.map_cons, List.nodup_cons] at hn
    split at h
    · rename_i e1 e2
      rcases List.mem_cons.1 hm with rfl | hm
      · simp [e1, e2]
      · exact okUps_spec h hn.2 u hm
    · rename_i e1 e2
      rcases List.mem_cons.1 hm with rfl | hm
      · simp [e1, e2]
      · have := okUps_spec h hn.2 u hm
        have hne : u.id ≠ v.id := fun e => hn.1 (by rw [← e]; exact List.mem_map_of_mem hm)
        rw [upd_ne _ _ hne] at this
        exact this
    · cases h

/-- What one operation does. -/
structure StepOk (st : St) (w : World) (γ : Nat → Gh) (v : SV) (us : List Up) (v' : Value) (w' : World) (γ' : Nat → Gh) : Prop where
  val : denV (updI st.ids us) γ' v v'
  gh : ∀ i, st.ids i = true → γ' i = γ i
  kept : Kept (fun b => ∃ u ∈ us, blk γ u.id = some b ∧ ∃ o, st.hp u.id = some o ∧ o.wr = true) w w'
  obs : ∀ u ∈ us, ∀ o, u.ob = some o → ObOk (updI st.ids us) γ' w' u.id o ∧ o.wr = true
  blks : ∀ u ∈ us, ∀ o b, u.ob = some o → blk γ' u.id = some b → w.heap.size ≤ b ∨ ∃ u2 ∈ us, blk γ u2.id = some b ∧ ∃ p, st.hp u2.id = some p ∧ p.wr = true
  sep : ∀ u ∈ us, ∀ u2 ∈ us, ∀ o p b, u.ob = some o → u2.ob = some p → blk γ' u.id = some b → blk γ' u2.id = some b → u.id = u2.id

/-- A step that writes nothing and makes nothing. -/
theorem StepOk.pure {st : St} {w : World} {γ : Nat → Gh} {v : SV} {v' : Value} (h : denV st.ids γ v v') : StepOk st w γ v [] v' w γ :=
  ⟨h, fun _ _ => rfl, Kept.refl _ _, (fun _ h => by cases h), (fun _ h => by cases h), (fun _ h => by cases h)⟩

theorem put_tmps_get (a : Act) (d : Nat) (v : Value) (j : Nat) (hd : d < a.tmps.size) : (a.put (some d) v).tmps.getD j undef = if j = d then v else a.tmps.getD j undef := by
  simp only [Act.put, Array.getD_eq_getD_getElem?, Array.getElem?_setIfInBounds]
  by_cases h : d = j
  · subst h; simp [hd]
  · simp [h, Ne.symm h]

theorem putU_eq (fr : Nat → SV) : ∀ (us : List Up) (hp : Nat → Option Ob) (ids : Nat → Bool) (K : St → Prop), putU fr hp ids us K = K ⟨fr, updAll hp us, updI ids us⟩
  | [], _, _, _ => rfl
  | u :: r, hp, ids, K => by
    obtain ⟨i, b, o⟩ := u
    rw [putU_cons]
    simp only [updAll, updI]
    exact putU_eq fr r _ _ K

theorem putK_eq (st : St) (d : Option Nat) (v : SV) (us : List Up) (K : St → Prop) : putK st d v us K = K (st.put d v us) := by
  obtain ⟨fr, hp, ids⟩ := st
  cases d <;> simp only [putK, putU_eq, St.put]

theorem put_ids (st : St) (d : Option Nat) (v : SV) (us : List Up) : (st.put d v us).ids = updI st.ids us := by cases d <;> rfl
theorem put_hp (st : St) (d : Option Nat) (v : SV) (us : List Up) : (st.put d v us).hp = updAll st.hp us := by cases d <;> rfl

theorem Rel.put {X : Cx} {st : St} {a : Act} {w : World} {γ : Nat → Gh} {d : Option Nat} {v : SV} {us : List Up} {v' : Value} {w' : World} {γ' : Nat → Gh}
    (h : Rel X st a w γ) (hs : StepOk st w γ v us v' w' γ') (hok : okUps st.ids us = true) (hn : (us.map (·.id)).Nodup) (hd : dstOk X.n d = true) :
    Rel X (st.put d v us) (a.put d v') w' γ' := by
  have hold := okUps_spec hok hn
  have hW : Wider st.ids (updI st.ids us) γ γ' := ⟨fun i hi => updI_true.2 (.inl hi), hs.gh⟩
  -- an object that is not touched keeps its block
  have far : ∀ i o b, i ∉ us.map (·.id) → st.hp i = some o → blk γ i = some b → w'.heap[b]? = w.heap[b]? := fun i o b hi ho hb =>
    hs.kept.block b ((h.ob i o ho).blk_lt hb) fun ⟨u, hu, hub, p, hp, hpw⟩ => by
      rcases h.sep i u.id o p b ho hp hb hub with e | ⟨_, e⟩
      · exact hi (by rw [e]; exact List.mem_map_of_mem hu)
      · rw [hpw] at e; cases e
  have blk' : ∀ i, st.ids i = true → blk γ' i = blk γ i := fun i hi => by unfold blk; rw [hs.gh i hi]
  constructor
  · rw [put_ids]
    intro j
    cases d with
    | none => exact denV_wider hW (h.fr j)
    | some d =>
      have hlt : d < X.n := by
        have : d + 1 ≤ X.n := Nat.le_of_ble_eq_true hd
        omega
      rw [put_tmps_get a d v' j (Nat.lt_of_lt_of_le hlt h.sz)]
      simp only [St.put]
      by_cases hj : j = d
      · rw [if_pos hj, hj, upd_same]; exact hs.val
      · rw [if_neg hj, upd_ne _ _ hj]; exact denV_wider hW (h.fr j)
  · cases d with
    | none => exact h.sz
    | some d => simpa [Act.put] using h.sz
  · cases d <;> exact h.df
  · rw [put_ids, put_hp]
    intro i o ho
    by_cases hi : i ∈ us.map (·.id)
    · obtain ⟨u, hu, rfl⟩ := List.mem_map.1 hi
      rw [updAll_on hn hu] at ho
      exact (hs.obs u hu o ho).1
    · rw [updAll_off hi] at ho
      exact (h.ob i o ho).keep hW (h.id i o ho) hs.kept.size fun b hb => far i o b hi ho hb
  · rw [put_ids, put_hp]
    intro i o ho
    by_cases hi : i ∈ us.map (·.id)
    · exact updI_true.2 (.inr hi)
    · rw [updAll_off hi] at ho
      exact updI_true.2 (.inl (h.id i o ho))
  · rw [put_hp]
    -- a touched object and one that is not
    have mixed : ∀ (u : Up), u ∈ us → ∀ o j p b, u.ob = some o → j ∉ us.map (·.id) → st.hp j = some p → blk γ' u.id = some b → blk γ' j = some b → False := by
      intro u hu o j p b ho hj hp hb1 hb2
      rw [blk' j (h.id j p hp)] at hb2
      rcases hs.blks u hu o b ho hb1 with hlt | ⟨u2, hu2, hub, q, hq, hqw⟩
      · have := (h.ob j p hp).blk_lt hb2
        omega
      · rcases h.sep j u2.id p q b hp hq hb2 hub with e | ⟨_, e⟩
        · exact hj (by rw [e]; exact List.mem_map_of_mem hu2)
        · rw [hqw] at e; cases e
    intro i j o p b ho hp hb1 hb2
    by_cases hi : i ∈ us.map (·.id)
    · obtain ⟨u, hu, rfl⟩ := List.mem_map.1 hi
      rw [updAll_on hn hu] at ho
      by_cases hj : j ∈ us.map (·.id)
      · obtain ⟨u2, hu2, rfl⟩ := List.mem_map.1 hj
        rw [updAll_on hn hu2] at hp
        exact .inl (hs.sep u hu u2 hu2 o p b ho hp hb1 hb2)
      · rw [updAll_off hj] at hp
        exact (mixed u hu o j p b ho hj hp hb1 hb2).elim
    · rw [updAll_off hi] at ho
      by_cases hj : j ∈ us.map (·.id)
      · obtain ⟨u2, hu2, rfl⟩ := List.mem_map.1 hj
        rw [updAll_on hn hu2] at hp
        exact (mixed u2 hu2 p i o b hp hi ho hb2 hb1).elim
      · rw [updAll_off hj] at hp
        rw [blk' i (h.id i o ho)] at hb1
        rw [blk' j (h.id j p hp)] at hb2
        exact h.sep i j o p b ho hp hb1 hb2
  · rw [put_hp]
    intro i o b ho hw hb
    by_cases hi : i ∈ us.map (·.id)
    · obtain ⟨u, hu, rfl⟩ := List.mem_map.1 hi
      rw [updAll_on hn hu] at ho
      rcases hs.blks u hu o b ho hb with hlt | ⟨u2, hu2, hub, q, hq, hqw⟩
      · exact .inl (Nat.le_trans h.kept.size hlt)
      · exact h.lo u2.id q b hq hqw hub
    · rw [updAll_off hi] at ho
      rw [blk' i (h.id i o ho)] at hb
      exact h.lo i o b ho hw hb
  · have hk := h.kept.trans hs.kept
    refine ⟨hk.os, hk.tape, hk.output, hk.size, fun k hk0 hn => ?_⟩
    refine hk.block k hk0 ?_
    rintro (hw | ⟨u, hu, hub, p, hp, hpw⟩)
    · exact hn hw
    · rcases h.lo u.id p k hp hpw hub with hlt | hw
      · omega
      · exact hn hw
  · intro i hi
    obtain ⟨h1, h2⟩ := h.base i hi
    rw [put_ids]
    exact ⟨updI_true.2 (.inl h1), (hs.gh i h1).trans h2⟩

end Go.Vx
