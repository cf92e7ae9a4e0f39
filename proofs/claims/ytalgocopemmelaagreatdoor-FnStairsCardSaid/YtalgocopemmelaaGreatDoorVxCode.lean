/- The parts of a function's code, by the evaluator. -/
import Derived.Test.YtalgocopemmelaaGreatDoorVxLoop
namespace Go.Vx
set_option linter.unusedSimpArgs false
set_option linter.unusedVariables false
open Go Go.RowKit

/-- The slots that are not written are as they were. -/
def Same (ds : List Nat) (st st' : St) : Prop := ∀ j, j ∉ ds → st'.fr j = st.fr j

section
variable {P : Program} {E : Env} {X : Cx}

theorem outK_frame {d : Option Nat} {out : Out} {K : St → Prop} {st : St} (h : outK d out K st) : outK d out (fun s => K s ∧ ∀ j, d ≠ some j → s.fr j = st.fr j) st := by
  obtain ⟨p, v, us, h1, h2, h3⟩ := h
  refine ⟨p, v, us, h1, h2, h3, fun j hj => ?_⟩
  cases d with
  | none => rfl
  | some d => exact upd_ne _ _ fun e => hj (by rw [e])

def dsO (ops : List Oper) : List Nat := ops.filterMap (·.dst)

theorem dsO_mem {ops : List Oper} {o : Oper} {j : Nat} (ho : o ∈ ops) (hj : j ∉ dsO ops) : o.dst ≠ some j := fun e => hj (List.mem_filterMap.2 ⟨o, ho, e⟩)

theorem Rel.lit {st : St} {a : Act} {w : World} {γ : Nat → Gh} (R : Rel X st a w γ) {g : Nat} {b : Bool} (hg : st.fr g = .sc (.bool b)) : Rel X ⟨upd st.fr g (.sc (.lit b)), st.hp, st.ids⟩ a w γ := by
  refine ⟨fun j => ?_, R.sz, R.df, R.ob, R.id, R.sep, R.lo, R.kept, R.base⟩
  show denV st.ids γ (upd st.fr g (.sc (.lit b)) j) _
  by_cases hj : j = g
  · subst hj
    rw [upd_same]
    have := R.fr j
    rw [hg] at this
    exact this
  · rw [upd_ne _ _ hj]
    exact R.fr j

theorem vcG2_out {n : Nat} {all : List Oper} {guard : Option (Nat × Bool)} {dst : Option Nat} {run : (St → Prop) → St → Prop} {out : St → Out} {K : St → Prop} {st : St} {a : Act} {w : World} {γ : Nat → Gh}
    (hrun : ∀ s, run K s → outK dst (out s) K s) (R : Rel X st a w γ) (h : vcG2 n all guard dst run K st) : ∃ s, Rel X s a w γ ∧ Same (dsO all) st s ∧ s.hp = st.hp ∧ outK dst (gOut n all guard dst out s) K s := by
  unfold vcG2 at h
  unfold gOut gOn
  split at h
  · exact ⟨st, R, fun _ _ => rfl, rfl, hrun _ h⟩
  · rename_i j want
    split at h
    · rename_i g hg
      have hin : ∀ {b : Bool}, Same (dsO all) st ⟨upd st.fr g (.sc (.lit b)), st.hp, st.ids⟩ := fun j hj => upd_ne _ _ fun e => by
        subst e
        unfold gslot at hg
        split at hg
        · rename_i o ho; exact dsO_mem (List.mem_of_getElem? ho) hj hg
        · cases hg
      simp only [hg]
      split at h
      · rename_i b hb
        refine ⟨st, R, fun _ _ => rfl, rfl, ?_⟩
        simp only [hb]
        cases b <;> cases want <;> first | exact hrun _ h | exact skip_out h
      · rename_i hb
        refine ⟨st, R, fun _ _ => rfl, rfl, ?_⟩
        simp only [hb]
        exact skip_out h
      · rename_i b hb
        refine ⟨_, R.lit hb, hin, rfl, ?_⟩
        simp only [upd_same]
        cases want
        · cases b
          · exact hrun _ (h.1 rfl)
          · exact skip_out (h.2 rfl)
        · cases b
          · exact skip_out (h.2 rfl)
          · exact hrun _ (h.1 rfl)
      · exact h.elim
    · exact h.elim

theorem ops_ok2 (hE : EnvOk P E X) (hX : X.n = E.n) {ops : Array Oper} {K : St → Prop} {Q : Exit → Act → World → Prop} {st0 : St}
    (hK : ∀ st' a' w' γ', Rel X st' a' w' γ' → Same (dsO ops.toList) st0 st' → K st' → Q .normal a' w') :
    ∀ (l : List Oper) (k : Nat), (∀ j, l[j]? = ops[k + j]?) → ∀ (st : St) (a : Act) (w : World) (γ : Nat → Gh), Same (dsO ops.toList) st0 st → Rel X st a w γ → vcOps E ops.toList K l st → wpOps P ops Q (List.range' k l.length) a w
  | [], k, _, st, a, w, γ, hS, R, h => hK _ _ _ _ R hS h
  | o :: l, k, hl, st, a, w, γ, hS, R, h => by
    have h0 : ops[k]? = some o := by simpa using (hl 0).symm
    have hm : o ∈ ops.toList := by
      rw [← Array.getElem?_toList] at h0
      exact List.mem_of_getElem? h0
    simp only [List.length_cons, List.range'_succ, wpOps, h0]
    obtain ⟨st1, R1, hS1, _, hg1⟩ := vcG2_out (out := fun st => rawOut E st.hp (fun _ => true) o.dst o.op st) (fun s h => vcOp_out h) R h
    have hg := outK_frame hg1
    have hS : Same (dsO ops.toList) st0 st1 := fun j hj => (hS1 j hj).trans (hS j hj)
    have := opG_ok hE hX (ops := ops) R1 (hr := st1.hp) (fun i o h => h) (Q := Q) (K' := wpOps P ops Q (List.range' (k + 1) l.length)) hg (fun st' a' w' γ' R' h' =>
      ops_ok2 hE hX hK l (k + 1) (fun j => by have := hl (j + 1); simpa [Nat.add_assoc, Nat.add_comm 1 j] using this) st' a' w' γ' (fun j hj => (h'.2 j (dsO_mem hm hj)).trans (hS j hj)) R' h'.1)
    split
    · rename_i hw
      rw [if_pos hw] at this
      exact .inl this
    · rename_i hw
      rw [if_neg hw] at this
      exact this

theorem aStep_frame {ops : List Oper} {fps : List Fp} {i : Nat} {K : St → Prop} {st st0 : St} (hS : Same (dsO ops) st0 st) (h : aStep E ops fps i K st) : aStep E ops fps i (fun s => K s ∧ Same (dsO ops) st0 s) st := by
  unfold aStep at *
  split
  · rename_i o fp h1 h2
    rw [h1, h2] at h
    obtain ⟨p, v, us, q1, q2, q3, q4⟩ := outK_frame h
    exact ⟨p, v, us, q1, q2, q3, fun j hj => (q4 j (dsO_mem (List.mem_of_getElem? h1) hj)).trans (hS j hj)⟩
  · rename_i hn
    split at h
    · rename_i o fp h1 h2; exact (hn o fp h1 h2).elim
    · exact h.elim

theorem wpAnyA_frame {ops : Array Oper} {fps : List Fp} {K : St → Prop} {st0 : St} : ∀ (fuel : Nat) (listed : Array Bool) (st : St), Same (dsO ops.toList) st0 st → wpAnyA E ops fps K fuel listed st →
    wpAnyA E ops fps (fun s => K s ∧ Same (dsO ops.toList) st0 s) fuel listed st
  | 0, _, _, hS, h => ⟨h.1, h.2, hS⟩
  | fuel + 1, listed, st, hS, h => ⟨fun h0 => ⟨h.1 h0, hS⟩, fun i hi => aStep_mono (fun s hs => wpAnyA_frame fuel _ s hs.2 hs.1) (aStep_frame hS (h.2 i hi))⟩

theorem region_draw_ok2 (hE : EnvOk P E X) (hX : X.n = E.n) (hm : P.follows .mixedOrders = true) {id : Nat} {ops : Array Oper} {fps : List Fp} {K : St → Prop} {Q : Exit → Act → World → Prop}
    {st : St} {a : Act} {w : World} {γ : Nat → Gh} (hK : ∀ st' a' w' γ', Rel X st' a' w' γ' → Same (dsO ops.toList) st st' → K st' → Q .normal a' w') (R : Rel X st a w γ) (hlen : fps.length = ops.size) (hc : confOk ops.toList fps = true) (h : vcOpsF E ops.toList K ops.toList fps st) : (Code.region id ops true).wp P Q a w := by
  unfold confOk at hc
  simp only [Bool.and_eq_true] at hc
  obtain ⟨⟨_, h1⟩, h2⟩ := hc
  have hA := ancOk_of h1
  have hind := (confFrom_spec h2).1
  have hl := any_lex (K := K) hA hlen (fun i j x y fx fy hij hx hfx hy hfy hn => hind i j x y fx fy hij hx hfx hy hfy (by simpa using hn)) ops.toList fps 0 st (by simp) (fun j => by simp) (fun j => by simp) h
  rw [firstN_zero] at hl
  have hl := wpAnyA_frame (st0 := st) _ _ st (fun _ _ => rfl) hl
  have R' : Rel X st a { w with drawn := w.drawn + 1 } γ := by
    refine ⟨R.fr, R.sz, R.df, fun i o ho => ?_, R.id, R.sep, R.lo, ⟨R.kept.os, R.kept.tape, R.kept.output, R.kept.size, R.kept.block⟩, R.base⟩
    exact (R.ob i o ho).keep (Wider.refl _ _) (R.id i o ho) (Nat.le_refl _) fun _ _ => rfl
  refine wp_region_any hm ?_
  have := any_ok hE hX (Q := Q) (fun st' a' w' γ' R' hk => hK st' a' w' γ' R' hk.2 hk.1) _ _ st a _ γ R' hl
  simpa using this

def KnOk (kn : List (Nat × Bool)) (st : St) : Prop := ∀ p ∈ kn, ∀ b, st.fr p.1 = .sc (.bool b) → b = p.2

theorem lookB_mem : ∀ {kn : List (Nat × Bool)} {g : Nat} {v : Bool}, lookB g kn = some v → (g, v) ∈ kn
  | [], _, _, h => by cases h
  | (i, b) :: r, g, v, h => by
    unfold lookB at h
    split at h
    · rename_i e
      have := Nat.eq_of_beq_eq_true e
      subst this
      cases h
      exact List.mem_cons_self
    · exact List.mem_cons_of_mem _ (lookB_mem h)

theorem dropB_mem : ∀ {kn : List (Nat × Bool)} {d : Option Nat} {p : Nat × Bool}, p ∈ dropB d kn → p ∈ kn ∧ d ≠ some p.1
  | [], _, _, h => by cases h
  | (i, b) :: r, d, p, h => by
    unfold dropB at h
    split at h
    · rcases List.mem_cons.1 h with rfl | h
      · exact ⟨List.mem_cons_self, fun e => by cases e⟩
      · obtain ⟨h1, h2⟩ := dropB_mem h
        exact ⟨List.mem_cons_of_mem _ h1, h2⟩
    · rename_i j
      split at h
      · obtain ⟨h1, h2⟩ := dropB_mem h
        exact ⟨List.mem_cons_of_mem _ h1, h2⟩
      · rename_i e
        rcases List.mem_cons.1 h with rfl | h
        · exact ⟨List.mem_cons_self, fun h => by cases h; simp at e⟩
        · obtain ⟨h1, h2⟩ := dropB_mem h
          exact ⟨List.mem_cons_of_mem _ h1, h2⟩

theorem KnOk.next {kn : List (Nat × Bool)} {st s : St} {d : Option Nat} (h : KnOk kn st) (hs : ∀ j, d ≠ some j → s.fr j = st.fr j) : KnOk (dropB d kn) s := fun p hp b hb => by
  obtain ⟨h1, h2⟩ := dropB_mem hp
  rw [hs _ h2] at hb
  exact h p h1 b hb

theorem KnOk.cons {kn : List (Nat × Bool)} {st : St} {g : Nat} {b v : Bool} (h : KnOk kn st) (hg : st.fr g = .sc (.bool b)) (hb : b = v) : KnOk ((g, v) :: kn) st := fun p hp b' hb' => by
  rcases List.mem_cons.1 hp with rfl | hp
  · simp only at hb'
    rw [hg] at hb'
    cases hb'
    exact hb
  · exact h p hp b' hb'

theorem put_fr (st : St) (d : Option Nat) (v : SV) (us : List Up) : ∀ j, d ≠ some j → (st.put d v us).fr j = st.fr j := fun j hj => by
  cases d with
  | none => rfl
  | some d => exact upd_ne _ _ fun e => hj (by rw [e])

theorem vcOpF_imp {fp : Fp} {dst : Option Nat} {op : Op} {K K' : St → Prop} {st : St} (h : vcOpF E fp dst op K st) (hK : ∀ s, (∀ j, dst ≠ some j → s.fr j = st.fr j) → K s → K' s) : vcOpF E fp dst op K' st := by
  unfold vcOpF at *
  split
  · rename_i ps v us h1 h2
    rw [h1, h2] at h
    simp only at h
    split
    · rename_i h3 h4
      rw [h3, h4] at h
      simp only at h
      rw [force_v, force_u, putK_eq] at *
      have : ∀ {ps : List Prop} {p q : Prop}, (p → q) → andAll ps p → andAll ps q := by
        intro ps
        induction ps with
        | nil => intro p q h1 h2; exact h1 h2
        | cons x r ih => intro p q h1 h2; exact ⟨h2.1, ih h1 h2.2⟩
      exact this (hK _ (put_fr _ _ _ _)) h
    · rename_i hn
      split at h
      · rename_i h3 h4; exact (hn h3 h4).elim
      · exact h
  · rename_i hn
    split at h
    · rename_i ps v us h1 h2; exact (hn ps v us h1 h2).elim
    · exact h

theorem skipK_imp {n : Nat} {dst : Option Nat} {K K' : St → Prop} {st : St} (h : skipK n dst K st) (hK : ∀ s, (∀ j, dst ≠ some j → s.fr j = st.fr j) → K s → K' s) : skipK n dst K' st := by
  unfold skipK at *
  split
  · rename_i h1
    rw [h1] at h
    simp only at h
    rw [putK_eq] at *
    exact hK _ (put_fr _ _ _ _) h
  · rename_i h1
    rw [h1] at h
    exact h

theorem vcOpsK_ok {all : List Oper} {K : St → Prop} : ∀ {l : List Oper} {kn : List (Nat × Bool)} {fps : List Fp} {st : St}, KnOk kn st → vcOpsK E all K l kn fps st → vcOpsF E all K l fps st
  | [], _, _, _, _, h => h
  | ⟨_, _, _, _, _, _⟩ :: _, _, [], _, _, h => h.elim
  | ⟨dst, op, ty, pos, after, guard⟩ :: r, kn, fp :: fps, st, hk, h => by
    simp only [vcOpsF, vcG]
    rw [vcOpsK_cons] at h
    have run : ∀ {kn'}, KnOk kn' st → vcOpF E fp dst op (vcOpsK E all K r (dropB dst kn') fps) st → vcOpF E fp dst op (vcOpsF E all K r fps) st := fun hk' h => vcOpF_imp h fun s hs hh => vcOpsK_ok (hk'.next hs) hh
    have skip : ∀ {kn'}, KnOk kn' st → skipK E.n dst (vcOpsK E all K r (dropB dst kn') fps) st → skipK E.n dst (vcOpsF E all K r fps) st := fun hk' h => skipK_imp h fun s hs hh => vcOpsK_ok (hk'.next hs) hh
    cases guard with
    | none => exact run hk h
    | some jw =>
      obtain ⟨j, want⟩ := jw
      simp only at h ⊢
      split at h
      · rename_i g hg
        split at h
        · rename_i b hb
          cases b <;> cases want <;> first | exact run hk h | exact skip hk h
        · rename_i hb
          exact skip hk h
        · rename_i b hb
          split at h
          · rename_i v hv
            have hbv : b = v := hk _ (lookB_mem hv) b hb
            subst hbv
            cases b <;> cases want
            · exact ⟨fun _ => run hk h, fun e => by cases e⟩
            · exact ⟨fun e => (by cases e), fun _ => skip hk h⟩
            · exact ⟨fun e => (by cases e), fun _ => skip hk h⟩
            · exact ⟨fun _ => run hk h, fun e => by cases e⟩
          · cases want
            · exact ⟨fun e => run (hk.cons hb e) (h.1 e), fun e => skip (hk.cons hb e) (h.2 e)⟩
            · exact ⟨fun e => run (hk.cons hb e) (h.1 e), fun e => skip (hk.cons hb e) (h.2 e)⟩
        · exact h.elim
      · exact h.elim

theorem Same.trans {d1 d2 d : List Nat} {a b c : St} (h1 : Same d1 a b) (h2 : Same d2 b c) (s1 : ∀ j ∈ d1, j ∈ d) (s2 : ∀ j ∈ d2, j ∈ d) : Same d a c := fun j hj =>
  (h2 j fun h => hj (s2 j h)).trans (h1 j fun h => hj (s1 j h))

/-- **The code of a function.** -/
theorem vc_ok (hE : EnvOk P E X) (hX : X.n = E.n) (hm : P.follows .mixedOrders = true) : ∀ (c : Code) {K : Exit → St → Prop} {Q : Exit → Act → World → Prop} {st : St} {a : Act} {w : World} {γ : Nat → Gh},
    Rel X st a w γ → vc E c K st → (∀ e st' a' w' γ', Rel X st' a' w' γ' → Same (dsts c) st st' → K e st' → Q e a' w') → c.wp P Q a w := by
  intro c
  induction c with
  | skip => intro K Q st a w γ R h hK; exact wp_skip (hK _ _ _ _ _ R (fun _ _ => rfl) h)
  | seq x y ihx ihy =>
    intro K Q st a w γ R h hK
    refine wp_seq (ihx R h fun e st' a' w' γ' R' hS hk => ?_)
    cases e with
    | normal =>
      refine ihy R' hk fun e st2 a2 w2 γ2 R2 hS2 hk2 => hK _ _ _ _ _ R2 (hS.trans hS2 ?_ ?_) hk2
      · intro j hj; simp only [dsts, List.mem_append]; exact .inl hj
      · intro j hj; simp only [dsts, List.mem_append]; exact .inr hj
    | _ => exact hK _ _ _ _ _ R' (fun j hj => hS j fun h => hj (by simp only [dsts, List.mem_append]; exact .inl h)) hk
  | region id ops draw =>
    intro K Q st a w γ R h hK
    cases draw with
    | false =>
      rw [vc_plain] at h
      refine wp_region ?_
      have := ops_ok2 hE hX (ops := ops) (Q := Q) (st0 := st) (fun st' a' w' γ' R' hS hk => hK _ _ _ _ _ R' hS hk) ops.toList 0 (fun j => by simp) st a w γ (fun _ _ => rfl) R h
      rw [List.range_eq_range']
      simpa using this
    | true =>
      rw [vc_draw] at h
      obtain ⟨⟨hc⟩, h⟩ := h
      exact region_draw_ok2 hE hX hm (fun st' a' w' γ' R' hS hk => hK _ _ _ _ _ R' hS hk) R (by rw [fpsOf_length]; simp) hc (vcOpsK_ok (fun _ h => by cases h) h)
  | cond c x y ihx ihy =>
    intro K Q st a w γ R h hK
    have hc := ev_ok R c
    rw [vc_cond] at h
    have hx : ∀ {st'}, Same (dsts x) st st' → Same (dsts (.cond c x y)) st st' := fun hS j hj => hS j fun h => hj (by simp only [dsts, List.mem_append]; exact .inl h)
    have hy : ∀ {st'}, Same (dsts y) st st' → Same (dsts (.cond c x y)) st st' := fun hS j hj => hS j fun h => hj (by simp only [dsts, List.mem_append]; exact .inr h)
    split at h
    · rename_i heq
      rw [heq] at hc
      exact wp_cond_true hc (ihx R h fun e st' a' w' γ' R' hS hk => hK _ _ _ _ _ R' (hx hS) hk)
    · rename_i heq
      rw [heq] at hc
      exact wp_cond_false hc (ihy R h fun e st' a' w' γ' R' hS hk => hK _ _ _ _ _ R' (hy hS) hk)
    · rename_i t heq
      rw [heq] at hc
      refine wp_cond_split hc (fun ht => ihx R (h.1 ht) fun e st' a' w' γ' R' hS hk => hK _ _ _ _ _ R' (hx hS) hk) (fun ht => ihy R (h.2 ht) fun e st' a' w' γ' R' hS hk => hK _ _ _ _ _ R' (hy hS) hk)
    · exact h.elim
  | block id c ih =>
    intro K Q st a w γ R h hK
    rw [vc_block] at h
    refine wp_block (ih R h fun e st' a' w' γ' R' hS hk => ?_)
    cases e with
    | exit i =>
      simp only [exitK] at hk
      simp only [Exit.inBlock]
      split at hk
      · rename_i e
        rw [if_pos (Nat.eq_of_beq_eq_true e)]
        exact hK _ _ _ _ _ R' hS hk
      · rename_i e
        rw [if_neg (fun h => by rw [h] at e; simp at e)]
        exact hK _ _ _ _ _ R' hS hk
    | _ => exact hK _ _ _ _ _ R' hS hk
  | loop c ih =>
    intro K Q st a w γ R h hK
    rw [vc_loop] at h
    obtain ⟨α, H, Φ, μ, ⟨x0, hx0, hf0⟩, hround⟩ := h
    have hW0 : ∀ j, ∀ i ∈ idsSV (st.fr j), st.ids i = true := fun j => denV_refs (R.fr j)
    have hfr : ∀ x j, j ∉ dsts c → ((H x).st (dsts c) st).fr j = st.fr j := fun x j hj => by
      show (match elemB j (dsts c) with | true => _ | false => st.fr j) = st.fr j
      rw [elemB_false.2 hj]
    refine wp_loop_ghost (fun n a w => ∃ x γ', Φ x ∧ μ x = n ∧ Rel X ((H x).st (dsts c) st) a w γ') (μ x0) ?_ ?_
    · obtain ⟨γ', R'⟩ := fits_ok hf0 (fun _ _ => rfl) (fun i hi => (R.base i hi).1) hW0 R
      exact ⟨x0, γ', hx0, rfl, R'⟩
    · rintro n a w ⟨x, γ', hx, rfl, R'⟩
      refine ih R' (hround x hx) fun e st' a' w' γ2 R2 hS hk => ?_
      have hS' : Same (dsts (.loop c)) st st' := fun j hj => (hS j hj).trans (hfr x j hj)
      cases e with
      | normal =>
        obtain ⟨x', hx', hlt, hf⟩ := hk
        obtain ⟨γ3, R3⟩ := fits_ok hf hS' (fun i hi => (R.base i hi).1) hW0 R2
        exact ⟨μ x', hlt, x', γ3, hx', rfl, R3⟩
      | _ => exact hK _ _ _ _ _ R2 hS' hk
  | exit i => intro K Q st a w γ R h hK; exact wp_exit (hK _ _ _ _ _ R (fun _ _ => rfl) h)
  | ret => intro K Q st a w γ R h hK; exact wp_ret (hK _ _ _ _ _ R (fun _ _ => rfl) h)
  | _ => intro K Q st a w γ R h hK; exact h.elim

end
end Go.Vx
