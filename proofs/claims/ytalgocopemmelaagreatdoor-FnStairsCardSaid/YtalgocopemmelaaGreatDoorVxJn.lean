/- Cuts: behind a piece of code the run goes on from what is said of its state; so the ways through the piece meet again. -/
import Derived.Test.YtalgocopemmelaaGreatDoorVxDet
namespace Go.Vx
set_option linter.unusedSimpArgs false
set_option linter.unusedVariables false
open Go Go.RowKit

/-- The code does what the evaluator would say of it. -/
structure VJ (P : Program) (E : Env) (c : Code) (K : Exit → St → Prop) (st : St) : Prop where
  out : ∀ {X : Cx} {Q : Exit → Act → World → Prop} {a : Act} {w : World} {γ : Nat → Gh}, EnvOk P E X → X.n = E.n → P.follows .mixedOrders = true → Rel X st a w γ →
    (∀ e st' a' w' γ', Rel X st' a' w' γ' → Same (dsts c) st st' → K e st' → Q e a' w') → c.wp P Q a w

theorem VJ.of {P : Program} {E : Env} {c : Code} {K : Exit → St → Prop} {st : St} (h : vc E c K st) : VJ P E c K st := ⟨fun hE hX hm R hK => vc_ok hE hX hm c R h hK⟩

theorem same_l {x y : Code} {a b : St} (h : Same (dsts x) a b) : Same (dsts (x.seq y)) a b := fun j hj => h j fun hh => hj (by simp only [dsts, List.mem_append]; exact .inl hh)
theorem same_r {x y : Code} {a b : St} (h : Same (dsts y) a b) : Same (dsts (x.seq y)) a b := fun j hj => h j fun hh => hj (by simp only [dsts, List.mem_append]; exact .inr hh)

theorem VJ.seq {P : Program} {E : Env} {x y : Code} {K : Exit → St → Prop} {st : St} (h : vc E x (seqK (fun s => VJ P E y K s) K) st) : VJ P E (x.seq y) K st := ⟨fun hE hX hm R hK => by
  refine wp_seq (vc_ok hE hX hm x R h fun e st' a' w' γ' R' hS hk => ?_)
  cases e with
  | normal => exact hk.out hE hX hm R' fun e st2 a2 w2 γ2 R2 hS2 hk2 => hK _ _ _ _ _ R2 ((same_l hS).trans (same_r hS2) (fun _ h => h) (fun _ h => h)) hk2
  | _ => exact hK _ _ _ _ _ R' (same_l hS) hk⟩

/-- **A cut behind the first piece.** -/
theorem VJ.cut {P : Program} {E : Env} {x y : Code} {K : Exit → St → Prop} {st : St} (H : Head) (h : vc E x (seqK (fun s => H.fits (dsts x) st s) K) st) (h2 : VJ P E y K (H.st (dsts x) st)) : VJ P E (x.seq y) K st := ⟨fun hE hX hm R hK => by
  have hW0 : ∀ j, ∀ i ∈ idsSV (st.fr j), st.ids i = true := fun j => denV_refs (R.fr j)
  have hfr : Same (dsts x) st (H.st (dsts x) st) := fun j hj => by
    show (match elemB j (dsts x) with | true => _ | false => st.fr j) = st.fr j
    rw [elemB_false.2 hj]
  refine wp_seq (vc_ok hE hX hm x R h fun e st' a' w' γ' R' hS hk => ?_)
  cases e with
  | normal =>
    obtain ⟨γ2, R2⟩ := fits_ok hk hS (fun i hi => (R.base i hi).1) hW0 R'
    exact h2.out hE hX hm R2 fun e st2 a2 w2 γ3 R3 hS2 hk2 => hK _ _ _ _ _ R3 ((same_l hfr).trans (same_r hS2) (fun _ h => h) (fun _ h => h)) hk2
  | _ => exact hK _ _ _ _ _ R' (same_l hS) hk⟩

/-- The first n pieces are run, then the rest is left. -/
def vcU (P : Program) (E : Env) (n : Nat) (c : Code) (K : Exit → St → Prop) (st : St) : Prop :=
  Nat.rec (motive := fun _ => Code → St → Prop) (fun c st => VJ P E c K st)
    (fun _ ih c st => match c with
      | .seq x y => vc E x (seqK (fun s => ih y s) K) st
      | _ => False) n c st
theorem VJ.upto {P : Program} {E : Env} (n : Nat) : ∀ {c : Code} {K : Exit → St → Prop} {st : St}, vcU P E n c K st → VJ P E c K st := by
  induction n with
  | zero => intro c K st h; exact h
  | succ n ih =>
    intro c K st h
    cases c with
    | seq x y =>
      have h : vc E x (seqK (fun s => vcU P E n y K s) K) st := h
      refine ⟨fun hE hX hm R hK => ?_⟩
      refine wp_seq (vc_ok hE hX hm x R h fun e st' a' w' γ' R' hS hk => ?_)
      cases e with
      | normal => exact (ih hk).out hE hX hm R' fun e st2 a2 w2 γ2 R2 hS2 hk2 => hK _ _ _ _ _ R2 ((same_l hS).trans (same_r hS2) (fun _ h => h) (fun _ h => h)) hk2
      | _ => exact hK _ _ _ _ _ R' (same_l hS) hk
    | _ => exact h.elim

def vcFnJ (P : Program) (wd : Option Nat) (T : Nat → Option Ty) (Γ : List Sig) (fn : Func) (s : Sig) (x : AKs s.ks) : Prop :=
  match fn.body, s.eff x with
  | some c, ⟨_, res, out⟩ => initK s.ks x (VJ P ⟨T, Γ, fn.ntmps, closOf 0 s.ks x, wd⟩ c (finK ⟨T, Γ, fn.ntmps, closOf 0 s.ks x, wd⟩ fn.results.toList s.ks s.rs res out))
  | none, _ => False

section
variable {P : Program} {E : Env} {X : Cx} {st : St} {a : Act} {w : World} {γ : Nat → Gh}

/-- **A function keeps its contract**, where its code may be cut. -/
theorem fn_okJ {wd : Option Nat} {T : Nat → Option Ty} {Γ : List Sig} {s : Sig} {fn : Func} (hT : ∀ t ty, T t = some ty → TyOk P T t ty) (hΓ : ∀ s ∈ Γ, GSpec P s ∧ FnOk P s.f) (hm : P.follows .mixedOrders = true) (hks : s.ks.length ≤ 50000) (hf : P.funcs[s.f]? = some fn)
    (hv : ∀ x, lenOk s.ks x → andL (s.eff x).pre → vcFnJ P wd T Γ fn s x) : GSpec P s := by
  intro x vs w rb cb ob hargs hraw hnd hrb hpre
  obtain ⟨γ, hp, hlen, hid, hcells⟩ := pars_ok (P := P) (i := 0) (by omega) hargs hnd
  have h := hv x hlen hpre
  unfold vcFnJ at h
  split at h
  · rename_i c pre res out hb heff
    rw [heff]
    simp only
    unfold initK at h
    split at h
    rename_i svs us hpars
    rw [hpars] at hp hid hcells
    simp only at hp hid hcells
    obtain ⟨fr, h1, _, h3, h4⟩ := putS_get _ _ _ _ h
    rw [force_u, putU_eq] at h1
    have hin : ∀ u ∈ us, updI (fun _ => false) us u.id = true := fun u hu => updI_true.2 (.inr (List.mem_map_of_mem hu))
    obtain ⟨hden, hobs⟩ := hp.den (updI (fun _ => false) us) γ fun u hu => ⟨hin u hu, rfl⟩
    have hl := denVs_length hden
    have hob : ∀ i o, updAll (fun _ => none) us i = some o → ∃ u ∈ us, u.id = i ∧ u.ob = some o := fun i o ho => by
      rcases updAll_mem ho with h | h
      · cases h
      · exact h
    let X : Cx := ⟨w, fun b => b ∈ cb ∨ b ∈ ob, fn.ntmps, updI (fun _ => false) us, γ, rb.filter fun b => decide (b < w.heap.size)⟩
    have hE : EnvOk P ⟨T, Γ, fn.ntmps, closOf 0 s.ks x, wd⟩ X := by
      refine ⟨hT, fun s hs => (hΓ s hs).1, fun s hs => (hΓ s hs).2, fun id e he => ?_, fun b hb => ?_, (rawsTab hraw).to fun b hb hlt => ⟨List.mem_filter.2 ⟨hb, by simpa using hlt⟩, hlt, rfl⟩⟩
      · by_cases hnr : e.isRaw = true
        · cases e with
          | raw r =>
            refine ⟨fun h => (by cases h), ?_⟩
            obtain ⟨aa, c, q1, q2, q3, q4⟩ := closRaw_ok hraw he
            exact ⟨aa, c, q1, q2, q3, fun hp => by obtain ⟨ad, p1, p2, p3, p4⟩ := q4 hp; exact ⟨ad, p1, List.mem_filter.2 ⟨p2, by simpa using p3⟩, p3, p4⟩⟩
          | _ => cases hnr
        have hnr : e.isRaw = false := by simpa using hnr
        obtain ⟨j, v, e1, e2, e3, e4⟩ := clos_ok (i := 0) hargs id e hnr he
        rw [hpars] at e4
        obtain ⟨u, hu, hd⟩ := denVs_get hden e4
        rw [e2] at hu
        cases hu
        obtain ⟨hi, hv⟩ := hd
        refine ⟨fun _ => hi, ?_⟩
        show CloF P X e (γ id).v
        rw [← hv]
        cases e with
        | cmp k D p => exact e3
        | raw r => cases hnr
        | clo k D p =>
          obtain ⟨f, caps, q1, q2, q3⟩ := e3
          refine ⟨f, caps, q1, q2, fun w' hw' => q3 w' ⟨hw'.1, fun b hb hlt => hw'.2 b (List.mem_filter.2 ⟨hb, by simpa using hlt⟩) hlt⟩⟩
      · obtain ⟨h1, h2⟩ := List.mem_filter.1 hb
        refine ⟨by simpa using h2, fun h => ?_⟩
        exact hrb b (List.mem_append.2 h) h1
    have R : Rel X ⟨fr, updAll (fun _ => none) us, updI (fun _ => false) us⟩ { tmps := vs.toArray ++ Array.replicate (fn.ntmps - vs.toArray.size) undef, defers := [] } w γ := by
      refine ⟨fun j => ?_, ?_, rfl, ?_, ?_, ?_, ?_, Kept.refl _ _, fun i hi => ⟨hi, rfl⟩⟩
      · rw [Array.getD_eq_getD_getElem?, Array.getElem?_append]
        by_cases hj : j < vs.length
        · obtain ⟨sv, hsv⟩ : ∃ sv, svs[j]? = some sv := ⟨svs[j]'(by omega), List.getElem?_eq_getElem (by omega)⟩
          obtain ⟨u, hu, hd⟩ := denVs_get hden hsv
          have hfj := h4 j sv hsv
          rw [Nat.zero_add] at hfj
          simp only [List.size_toArray, hj, if_true, List.getElem?_toArray, hu, Option.getD_some]
          show denV _ _ (fr j) u
          rw [hfj]
          exact hd
        · have hfj := h3 j (by omega)
          simp only [List.size_toArray, hj, if_false]
          show denV _ _ (fr j) _
          rw [hfj]
          show _ = undef
          rw [Array.getElem?_replicate]
          split <;> rfl
      · show fn.ntmps ≤ _
        simp only [Array.size_append, Array.size_replicate, List.size_toArray]
        omega
      · intro i o ho
        obtain ⟨u, hu, rfl, huo⟩ := hob i o ho
        exact hobs u hu o huo
      · intro i o ho
        obtain ⟨u, hu, rfl, huo⟩ := hob i o ho
        exact hin u hu
      · intro i j o p b ho hpp hb1 hb2
        obtain ⟨u, hu, rfl, huo⟩ := hob i o ho
        obtain ⟨u2, hu2, rfl, huo2⟩ := hob j p hpp
        cases hw1 : o.wr <;> cases hw2 : p.wr
        · exact .inr ⟨rfl, rfl⟩
        · exact (hrb b (hp.wr u2 hu2 p b huo2 hw2 hb2) (hp.rd u hu o b huo hw1 hb1)).elim
        · exact (hrb b (hp.wr u hu o b huo hw1 hb1) (hp.rd u2 hu2 p b huo2 hw2 hb2)).elim
        · exact .inl (hp.sep u hu u2 hu2 o p b huo huo2 hw1 hw2 hb1 hb2)
      · intro i o b ho hw hb1
        obtain ⟨u, hu, rfl, huo⟩ := hob i o ho
        exact .inr (by simpa using hp.wr u hu o b huo hw hb1)
    refine calls_of_wp hf hb (h1.out hE rfl hm R fun e st' a' w' γ' R' _ hk => ?_)
    have fin : endK ⟨T, Γ, fn.ntmps, closOf 0 s.ks x, wd⟩ fn.results.toList s.ks s.rs res out st' → a'.defers = [] ∧ ∃ v, (results fn a'.tmps).run P w' = .ok v w' ∧
        ∃ us l, Ending.returned v = .returned (packV us) ∧ RessOk w' s.rs res us l ∧ l.Nodup ∧ (∀ b ∈ l, w.heap.size ≤ b ∨ b ∈ ob) ∧ OutsOk w' s.ks vs out cb ∧ Kept (fun b => b ∈ cb ∨ b ∈ ob) w w' := by
      intro hk
      unfold endK at hk
      split at hk
      · rename_i rvs hrv
        obtain ⟨us', hrun, hd'⟩ := results_ok hE R' hrv
        obtain ⟨l, hl1, hl2, hl3⟩ := ressAre_ok R' hk hd'
        split at hl1
        · rename_i hdist
          have hcells' := hcells γ' fun u hu => (R'.base u.id (hin u hu)).2
          obtain ⟨ho1, ho2⟩ := outsAre_ok R' hl1 hcells'
          refine ⟨R'.df, _, hrun, us', _, rfl, hl3, blks_nodup R' (List.nodup_append.1 (distB_true hdist)).1 (fun i hi => by obtain ⟨o, q1, q2, _⟩ := hl2 i hi; exact ⟨o, q1, q2⟩), fun b hb => ?_, ho1, R'.kept⟩
          obtain ⟨i, hi, hbi⟩ := List.mem_filterMap.1 hb
          obtain ⟨o, q1, q2, q3⟩ := hl2 i hi
          rcases R'.lo i o b q1 q2 hbi with h | h | h
          · exact .inl h
          · obtain ⟨j, p, hj, hpw, hbj, hjc⟩ := ho2 b h
            rcases R'.sep i j o _ b q1 hj hbi hbj with e | ⟨e, _⟩
            · subst e
              rw [q1] at hj
              cases hj
              rcases hjc with ⟨t, cs, e⟩ | hjc
              · exact (q3 t cs e).elim
              · exact ((List.nodup_append.1 (distB_true hdist)).2.2 _ hi _ hjc rfl).elim
            · rw [q2] at e; cases e
          · exact .inr h
        · exact hl1.elim
      · exact hk.elim
    cases e with
    | normal => exact fin hk
    | ret => exact fin hk
    | _ => exact hk.elim
  · exact h.elim

end

theorem fn_knownJ (wd : Option Nat) {P : Program} {l : List (Nat × Ty)} (ht : tabB P (tabT l) l = true) (hm : P.follows .mixedOrders = true) {Γ : List Sig} (hΓ : Known P Γ) {s : Sig} {fn : Func} (hks : s.ks.length ≤ 50000) (hf : P.funcs[s.f]? = some fn)
    (hv : ∀ x, lenOk s.ks x → andL (s.eff x).pre → vcFnJ P wd (tabT l) Γ fn s x) : GSpec P s :=
  fn_okJ (wd := wd) (T := tabT l) (Γ := Γ) (fun t ty h => tabB_ok ht t ty h) (fun s hs => hΓ.sig s hs) hm hks hf hv
end Go.Vx
