/- One walk in the order of the text serves every order. -/
import Derived.Test.YtalgocopemmelaaGreatDoorVxReg
namespace Go.Vx
set_option linter.unusedSimpArgs false
set_option linter.unusedVariables false
open Go Go.RowKit

section
variable {E : Env} {ops : Array Oper} {fps : List Fp} {K : St → Prop}

/-- Whatever is listed waits for what is listed alone. -/
def Down (ops : Array Oper) (listed : Array Bool) : Prop :=
  ∀ (m : Nat) (o : Oper), ops[m]? = some o → listed.getD m false = true → ∀ e ∈ o.after, Region.binds .any e = true → listed.getD e.on false = true

theorem down_set {listed : Array Bool} (h : Down ops listed) {j : Nat} (hj : j ∈ Region.ready .any ops listed) : Down ops (listed.setIfInBounds j true) := by
  intro m o ho hm e he hb
  rw [mem_ready] at hj
  obtain ⟨_, oj, hoj, hall⟩ := hj
  by_cases e1 : m = j
  · subst e1
    rw [ho] at hoj
    cases hoj
    exact getD_set_true (hall e he hb)
  · have : listed.getD m false = true := by
      rw [← hm]
      simp [Array.getElem?_setIfInBounds_ne (Ne.symm e1)]
    exact getD_set_true (h m o ho this e he hb)

/-- The table of those that come ahead. -/
structure AncOk (ops : Array Oper) (A : List (List Nat)) : Prop where
  anc : ∀ (j : Nat) (o : Oper), ops[j]? = some o → ∀ i ∈ A.getD j [], ∃ e ∈ o.after, Region.binds .any e = true ∧ (i = e.on ∨ i ∈ A.getD e.on [])
  lt : ∀ (j : Nat) (o : Oper), ops[j]? = some o → ∀ e ∈ o.after, Region.binds .any e = true → e.on < j

theorem anc_listed {A : List (List Nat)} (hA : AncOk ops A) {listed : Array Bool} (hd : Down ops listed) : ∀ (j : Nat) (o : Oper), ops[j]? = some o → (∀ e ∈ o.after, Region.binds .any e = true → listed.getD e.on false = true) → ∀ i ∈ A.getD j [], listed.getD i false = true := by
  intro j
  induction j using Nat.strongRecOn with
  | _ j ih =>
    intro o ho hall i hi
    obtain ⟨e, he, hb, hor⟩ := hA.anc j o ho i hi
    have hl := hall e he hb
    rcases hor with rfl | hor
    · exact hl
    · have hlt := hA.lt j o ho e he hb
      have hjs : j < ops.size := (Array.getElem?_eq_some_iff.1 ho).1
      have he' : ops[e.on]? = some (ops[e.on]'(by omega)) := Array.getElem?_eq_getElem (by omega)
      exact ih e.on hlt _ he' (hd e.on _ he' hl) i hor

/-- **An operation that may come now may be taken first.** -/
theorem any_first {A : List (List Nat)} (hA : AncOk ops A) {i : Nat} {x : Oper} {fx : Fp} (hx : ops.toList[i]? = some x) (hfx : fps[i]? = some fx)
    (hind : ∀ (j : Nat) (y : Oper) (fy : Fp), i < j → ops.toList[j]? = some y → fps[j]? = some fy → i ∉ A.getD j [] → indepB ops.toList x fx y fy = true) :
    ∀ (fuel : Nat) (listed : Array Bool) (st : St), (∀ k, k < i → listed.getD k false = true) → Down ops listed → i ∈ Region.ready .any ops listed →
      aStep E ops.toList fps i (wpAnyA E ops fps K fuel (listed.setIfInBounds i true)) st → wpAnyA E ops fps K (fuel + 1) listed st := by
  intro fuel
  induction fuel with
  | zero =>
    intro listed st hpre hd hr H
    refine ⟨(fun h => by rw [h] at hr; cases hr), fun j hj => ?_⟩
    by_cases hji : j = i
    · subst hji; exact H
    · have h1 := ready_mono hj hji
      unfold aStep at H
      rw [hx, hfx] at H
      obtain ⟨_, _, _, _, _, h2⟩ := H
      rw [h2.1] at h1
      cases h1
  | succ fuel ih =>
    intro listed st hpre hd hr H
    refine ⟨(fun h => by rw [h] at hr; cases hr), fun j hj => ?_⟩
    by_cases hji : j = i
    · subst hji; exact H
    · have hj1 := ready_mono hj hji
      have hr0 := mem_ready.1 hr
      obtain ⟨hjun, oj, hoj, hall⟩ := mem_ready.1 hj
      have hjl : ops.toList[j]? = some oj := by rw [Array.getElem?_toList]; exact hoj
      have hij : i < j := by
        rcases Nat.lt_trichotomy i j with h | h | h
        · exact h
        · exact (hji h.symm).elim
        · have h1 := hpre j h
          cases hq : listed[j]? with
          | none => simp [hq] at h1
          | some b => simp [hq] at h1 hjun; rw [h1] at hjun; cases hjun
      -- i is not yet listed: j does not wait for it
      have hna : i ∉ A.getD j [] := fun hm => by
        have h1 := anc_listed hA hd j oj hoj hall i hm
        have h0 := hr0.1
        cases hq : listed[i]? with
        | none => simp [hq] at h1
        | some b => simp [hq] at h1 h0; rw [h1] at h0; cases h0
      have h1 : aStep E ops.toList fps i (aStep E ops.toList fps j (wpAnyA E ops fps K fuel ((listed.setIfInBounds i true).setIfInBounds j true))) st :=
        aStep_mono (fun s hs => hs.2 j hj1) H
      -- j has a footprint
      have hfy : ∃ fy, fps[j]? = some fy := by
        unfold aStep at h1
        rw [hx, hfx] at h1
        obtain ⟨_, _, _, _, _, h2⟩ := h1
        rw [hjl] at h2
        cases hq : fps[j]? with
        | none => rw [hq] at h2; exact h2.elim
        | some fy => exact ⟨fy, rfl⟩
      obtain ⟨fy, hfy⟩ := hfy
      have h2 := aStep_comm hx hfx hjl hfy (hind j oj fy hij hjl hfy hna) h1
      refine aStep_mono (fun s hs => ih (listed.setIfInBounds j true) s (fun k hk => getD_set_true (hpre k hk)) (down_set hd hj) (ready_mono hr (Ne.symm hji)) ?_) h2
      rw [Array.setIfInBounds_comm _ _ hji]
      exact hs

/-- The first k are listed. -/
def firstN (n k : Nat) : Array Bool := (List.toArray ((List.range n).map fun i => decide (i < k)))

theorem firstN_get (n k i : Nat) (d : Bool) : (firstN n k).getD i d = if i < n then decide (i < k) else d := by
  simp only [firstN, Array.getD_eq_getD_getElem?, List.getElem?_toArray, List.getElem?_map]
  by_cases h : i < n
  · simp [h]
  · simp [h, List.getElem?_eq_none (l := List.range n) (by simpa using Nat.le_of_not_lt h)]

theorem firstN_zero (n : Nat) : firstN n 0 = Array.replicate n false := by
  apply Array.ext'
  simp only [firstN, Array.toList_replicate]
  apply List.ext_getElem?
  intro i
  by_cases h : i < n <;> simp [h, List.getElem?_replicate]

theorem firstN_succ (n k : Nat) : (firstN n k).setIfInBounds k true = firstN n (k + 1) := by
  apply Array.ext'
  apply List.ext_getElem?
  intro i
  rw [Array.toList_setIfInBounds]
  simp only [firstN, List.getElem?_set, List.getElem?_map]
  by_cases h : k = i
  · subst h
    by_cases hn : k < n <;> simp [hn]
  · simp only [h, if_false]
    by_cases hn : i < n
    · simp [hn]; omega
    · simp [hn]

theorem any_lex {A : List (List Nat)} (hA : AncOk ops A) (hlen : fps.length = ops.size)
    (hind : ∀ (i j : Nat) (x y : Oper) (fx fy : Fp), i < j → ops.toList[i]? = some x → fps[i]? = some fx → ops.toList[j]? = some y → fps[j]? = some fy → i ∉ A.getD j [] → indepB ops.toList x fx y fy = true) :
    ∀ (l : List Oper) (fl : List Fp) (k : Nat) (st : St), k + l.length = ops.size → (∀ j, l[j]? = ops.toList[k + j]?) → (∀ j, fl[j]? = fps[k + j]?) → vcOpsF E ops.toList K l fl st → wpAnyA E ops fps K l.length (firstN ops.size k) st
  | [], fl, k, st, hk, _, _, h => by
    refine ⟨?_, h⟩
    apply List.eq_nil_iff_forall_not_mem.2
    intro i hi
    obtain ⟨h0, o, ho, _⟩ := mem_ready.1 hi
    have hlt : i < ops.size := (Array.getElem?_eq_some_iff.1 ho).1
    rw [firstN_get, if_pos hlt] at h0
    simp at h0 hk
    omega
  | o :: l, [], k, st, hk, hl, hfl, h => h.elim
  | o :: l, fp :: fl, k, st, hk, hl, hfl, h => by
    have h0 : ops.toList[k]? = some o := by simpa using (hl 0).symm
    have hf0 : fps[k]? = some fp := by simpa using (hfl 0).symm
    have h0' : ops[k]? = some o := by rw [← Array.getElem?_toList]; exact h0
    have hklt : k < ops.size := (Array.getElem?_eq_some_iff.1 h0').1
    have hg := vcG_out (out := fun st => rawOut E (restrict st.hp (fp.r ++ fp.w)) (fun us => subB (us.map (·.id)) fp.w) o.dst o.op st) (fun h => vcOpF_out h) h
    have hstep : aStep E ops.toList fps k (wpAnyA E ops fps K l.length (firstN ops.size (k + 1))) st := by
      unfold aStep
      rw [h0, hf0]
      obtain ⟨p, v, us, q1, q2, q3⟩ := hg
      exact ⟨p, v, us, q1, q2, any_lex hA hlen hind l fl (k + 1) _ (by simp at hk; omega) (fun j => by have := hl (j + 1); simpa [Nat.add_assoc, Nat.add_comm 1 j] using this) (fun j => by have := hfl (j + 1); simpa [Nat.add_assoc, Nat.add_comm 1 j] using this) q3⟩
    rw [← firstN_succ] at hstep
    refine any_first hA h0 hf0 (fun j y fy hij hy hfy hn => hind k j o y fp fy hij h0 hf0 hy hfy hn) l.length _ st ?_ ?_ ?_ hstep
    · intro i hi
      rw [firstN_get, if_pos (by omega)]
      simpa using hi
    · intro m om hom hm e he hb
      have hlt := hA.lt m om hom e he hb
      have hms : m < ops.size := (Array.getElem?_eq_some_iff.1 hom).1
      rw [firstN_get, if_pos hms] at hm
      simp at hm
      rw [firstN_get, if_pos (by omega)]
      simp
      omega
    · refine mem_ready.2 ⟨by rw [firstN_get, if_pos hklt]; simp, o, h0', fun e he hb => ?_⟩
      have hlt := hA.lt k o h0' e he hb
      rw [firstN_get, if_pos (by omega)]
      simpa using hlt

theorem dedupB_mem : ∀ {l : List Nat} {i : Nat}, i ∈ dedupB l → i ∈ l
  | [], _, h => h
  | k :: r, i, h => by
    unfold dedupB at h
    split at h
    · exact List.mem_cons_of_mem _ (dedupB_mem h)
    · rcases List.mem_cons.1 h with rfl | h
      · exact List.mem_cons_self
      · exact List.mem_cons_of_mem _ (dedupB_mem h)

def ancF (acc : List (List Nat)) (o : Oper) : List Nat := dedupB (o.after.toList.flatMap fun e => match Region.binds .any e with | true => e.on :: acc.getD e.on [] | false => [])

theorem ancs_keep : ∀ (l : List Oper) (acc : List (List Nat)) (i : Nat), i < acc.length → (ancs acc l).getD i [] = acc.getD i []
  | [], _, _, _ => rfl
  | o :: r, acc, i, h => by
    simp only [ancs]
    rw [ancs_keep r _ i (by rw [List.length_append]; omega)]
    simp [List.getD, List.getElem?_append_left h]

theorem ancs_entry : ∀ (l : List Oper) (acc : List (List Nat)) (j : Nat) (o : Oper), l[j]? = some o →
    ∃ acc' : List (List Nat), acc'.length = acc.length + j ∧ (∀ i, i < acc'.length → (ancs acc l).getD i [] = acc'.getD i []) ∧ (ancs acc l).getD (acc.length + j) [] = ancF acc' o
  | [], _, _, _, h => by simp at h
  | x :: r, acc, 0, o, h => by
    simp at h
    subst h
    refine ⟨acc, rfl, fun i hi => ancs_keep _ _ _ hi, ?_⟩
    simp only [ancs]
    rw [ancs_keep r _ _ (by rw [List.length_append]; simp)]
    simp [List.getD, ancF]
    rfl
  | x :: r, acc, j + 1, o, h => by
    simp only [List.getElem?_cons_succ] at h
    obtain ⟨acc', h1, h2, h3⟩ := ancs_entry r (acc ++ [ancF acc x]) j o h
    refine ⟨acc', by rw [h1, List.length_append]; simp; omega, h2, ?_⟩
    rw [← h3]
    congr 1
    rw [List.length_append]
    simp
    omega

theorem lexOk_spec : ∀ {l : List Oper} {k : Nat}, lexOk k l = true → ∀ (j : Nat) (o : Oper), l[j]? = some o → ∀ e ∈ o.after, Region.binds .any e = true → e.on < k + j
  | [], _, _, _, _, h, _, _, _ => by simp at h
  | x :: r, k, h, 0, o, ho, e, he, hb => by
    simp at ho
    subst ho
    simp only [lexOk, Bool.and_eq_true] at h
    have := List.all_eq_true.1 h.1 e (by simpa using he)
    simp only [hb] at this
    have := Nat.le_of_ble_eq_true this
    omega
  | x :: r, k, h, j + 1, o, ho, e, he, hb => by
    simp only [lexOk, Bool.and_eq_true] at h
    simp only [List.getElem?_cons_succ] at ho
    have := lexOk_spec h.2 j o ho e he hb
    omega

theorem ancOk_of (h : lexOk 0 ops.toList = true) : AncOk ops (ancs [] ops.toList) := by
  have hlt : ∀ (j : Nat) (o : Oper), ops[j]? = some o → ∀ e ∈ o.after, Region.binds .any e = true → e.on < j := fun j o ho e he hb => by
    have := lexOk_spec h j o (by rw [Array.getElem?_toList]; exact ho) e he hb
    omega
  refine ⟨fun j o ho i hi => ?_, hlt⟩
  obtain ⟨acc', h1, h2, h3⟩ := ancs_entry ops.toList [] j o (by rw [Array.getElem?_toList]; exact ho)
  simp only [List.length_nil, Nat.zero_add] at h1 h3
  rw [h3] at hi
  unfold ancF at hi
  have hi := dedupB_mem hi
  obtain ⟨e, he, hm⟩ := List.mem_flatMap.1 hi
  have he' : e ∈ o.after := by simpa using he
  split at hm
  · rename_i hb
    refine ⟨e, he', hb, ?_⟩
    rcases List.mem_cons.1 hm with rfl | hm
    · exact .inl rfl
    · right
      rw [h2 e.on (by have := hlt j o ho e he' hb; omega)]
      exact hm
  · cases hm

theorem confRow_spec {all : List Oper} {x : Oper} {fx : Fp} {i : Nat} : ∀ {ys : List Oper} {fys : List Fp} {as : List (List Nat)}, confRow all x fx i ys fys as = true →
    ∀ (j : Nat) (y : Oper) (fy : Fp), ys[j]? = some y → fys[j]? = some fy → i ∉ as.getD j [] → indepB all x fx y fy = true
  | [], _, _, _, _, _, _, h, _, _ => by simp at h
  | y :: ys, fy :: fys, a :: as, h, 0, y', fy', hy, hf, hn => by
    simp at hy hf
    subst hy; subst hf
    simp only [confRow, Bool.and_eq_true, Bool.or_eq_true] at h
    rcases h.1 with h1 | h1
    · exact (hn (by simpa using elemB_true.1 h1)).elim
    · exact h1
  | y :: ys, fy :: fys, a :: as, h, j + 1, y', fy', hy, hf, hn => by
    simp only [confRow, Bool.and_eq_true] at h
    simp only [List.getElem?_cons_succ] at hy hf
    exact confRow_spec h.2 j y' fy' hy hf (by simpa using hn)
  | y :: ys, [], _, h, _, _, _, _, _, _ => by simp [confRow] at h
  | y :: ys, _ :: _, [], h, _, _, _, _, _, _ => by simp [confRow] at h

theorem confFrom_spec {all : List Oper} : ∀ {xs : List Oper} {fxs : List Fp} {as : List (List Nat)} {k : Nat}, confFrom all k xs fxs as = true →
    (∀ (i j : Nat) (x y : Oper) (fx fy : Fp), i < j → xs[i]? = some x → fxs[i]? = some fx → xs[j]? = some y → fxs[j]? = some fy → k + i ∉ as.getD j [] → indepB all x fx y fy = true) ∧ xs.length ≤ fxs.length
  | [], _, _, _, _ => ⟨fun i j x y fx fy _ h => by simp at h, Nat.zero_le _⟩
  | x :: xs, fx :: fxs, a :: as, k, h => by
    simp only [confFrom, Bool.and_eq_true] at h
    obtain ⟨h1, h2⟩ := confFrom_spec h.2
    refine ⟨fun i j x' y fx' fy hij hx hfx hy hfy hn => ?_, by simp; exact h2⟩
    cases j with
    | zero => omega
    | succ j =>
      simp only [List.getElem?_cons_succ] at hy hfy
      cases i with
      | zero =>
        simp at hx hfx
        subst hx; subst hfx
        exact confRow_spec h.1 j y fy hy hfy (by simpa using hn)
      | succ i =>
        simp only [List.getElem?_cons_succ] at hx hfx
        refine h1 i j x' y fx' fy (by omega) hx hfx hy hfy ?_
        intro hm
        apply hn
        rw [show k + (i + 1) = k + 1 + i by omega]
        simpa using hm
  | x :: xs, [], _, _, h => by simp [confFrom] at h
  | x :: xs, _ :: _, [], _, h => by simp [confFrom] at h

theorem fpsOf_length {Γ : List Sig} {hp : Nat → Option Ob} : ∀ {l : List Oper} {sh : Nat → List Nat}, (fpsOf Γ hp sh l).length = l.length
  | [], _ => rfl
  | o :: r, sh => by
    unfold fpsOf
    split
    simp [fpsOf_length (l := r)]

/-- A region that draws its order. -/
theorem region_draw_ok {P : Program} {X : Cx} (hE : EnvOk P E X) (hX : X.n = E.n) (hm : P.follows .mixedOrders = true) {id : Nat} {Q : Exit → Act → World → Prop} (hK : ∀ st' a' w' γ', Rel X st' a' w' γ' → K st' → Q .normal a' w')
    {st : St} {a : Act} {w : World} {γ : Nat → Gh} (R : Rel X st a w γ) (hlen : fps.length = ops.size) (hc : confOk ops.toList fps = true) (h : vcOpsF E ops.toList K ops.toList fps st) : (Code.region id ops true).wp P Q a w := by
  unfold confOk at hc
  simp only [Bool.and_eq_true] at hc
  obtain ⟨⟨_, h1⟩, h2⟩ := hc
  have hA := ancOk_of h1
  have hind := (confFrom_spec h2).1
  have hl := any_lex (K := K) hA hlen (fun i j x y fx fy hij hx hfx hy hfy hn => hind i j x y fx fy hij hx hfx hy hfy (by simpa using hn)) ops.toList fps 0 st (by simp) (fun j => by simp) (fun j => by simp) h
  rw [firstN_zero] at hl
  have R' : Rel X st a { w with drawn := w.drawn + 1 } γ := by
    refine ⟨R.fr, R.sz, R.df, fun i o ho => ?_, R.id, R.sep, R.lo, ⟨R.kept.os, R.kept.tape, R.kept.output, R.kept.size, R.kept.block⟩, R.base⟩
    exact (R.ob i o ho).keep (Wider.refl _ _) (R.id i o ho) (Nat.le_refl _) fun _ _ => rfl
  refine wp_region_any hm ?_
  have := any_ok hE hX hK _ _ st a _ γ R' hl
  simpa using this

end
end Go.Vx
