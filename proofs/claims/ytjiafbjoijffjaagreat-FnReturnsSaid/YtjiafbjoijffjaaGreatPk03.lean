/- Contracts: what they say of values and worlds; a call by its contract. -/
import Derived.Test.YtjiafbjoijffjaaGreatPk02
namespace Go.Vx
set_option linter.unusedSimpArgs false
set_option linter.unusedVariables false
open Go Go.RowKit

def ListOk (w : World) (rb : List Nat) (k : VK) (xs : List k.ty) (v : Value) : Prop :=
  ∃ a c, v = .slice a xs.length c ∧ xs.length ≤ c ∧ xs.length ≤ maxLen ∧
    (0 < xs.length → ∃ ad, a = some ad ∧ ad.block ∈ rb ∧ ad.block < w.heap.size ∧ ∀ j u, (flat k xs)[j]? = some u → w.cell? (ad.add j) = some u)

/-- A world in which what is read is as it was. -/
def Like (rb : List Nat) (w w' : World) : Prop := w.heap.size ≤ w'.heap.size ∧ ∀ b ∈ rb, b < w.heap.size → w'.heap[b]? = w.heap[b]?

def FnOk (P : Program) (f : Nat) : Prop := ∃ fn, P.funcs[f]? = some fn ∧ (fn.name == "runtime.NumGoroutine") = false ∧ fn.body.isNone = false

def CloOk (P : Program) (w : World) (rb : List Nat) (k : VK) (D : k.ty → Prop) (p : k.ty → Bool) (v : Value) : Prop :=
  ∃ f caps, FnOk P f ∧ v = .func (.func f) #[] (List.toArray caps) ∧ ∀ w', Like rb w w' → ∀ x, D x →
    Calls P f (List.toArray (valOf k x :: caps)) w' fun e w'' => e = .returned (.bool (p x)) ∧ Kept (fun _ => False) w' w''

/-- The tables are as they were laid, and nobody writes them. -/
def TabsOk (w : World) (rb : List Nat) : List (IntKind × List Int × Nat) → Prop
  | [] => True
  | (k, zs, g) :: r => (g ∈ rb ∧ g < w.heap.size ∧ ∃ t fz, w.heap[g]? = some (.cells (List.toArray (zs.map (Value.int k))) t fz)) ∧ TabsOk w rb r

theorem TabsOk.to {w w' : World} {rb rb' : List Nat} : ∀ {l : List (IntKind × List Int × Nat)}, TabsOk w rb l → (∀ b ∈ rb, b < w.heap.size → b ∈ rb' ∧ b < w'.heap.size ∧ w'.heap[b]? = w.heap[b]?) → TabsOk w' rb' l
  | [], _, _ => trivial
  | (k, zs, g) :: r, ⟨⟨h1, h2, t, fz, h3⟩, h4⟩, h => by
    obtain ⟨a1, a2, a3⟩ := h g h1 h2
    exact ⟨⟨a1, a2, t, fz, a3.trans h3⟩, TabsOk.to h4 h⟩

def CmpOk (P : Program) (k : VK) (D : k.ty → k.ty → Prop) (p : k.ty → k.ty → Int) (v : Value) : Prop :=
  ∃ f, FnOk P f ∧ v = .func (.func f) #[] #[] ∧ ∀ w' x y rb', TabsOk w' rb' TABS → D x y →
    Calls P f (List.toArray [valOf k x, valOf k y]) w' fun e w'' => e = .returned (.int .i64 (p x y)) ∧ Kept (fun _ => False) w' w''

def ArgOk (P : Program) (w : World) (rb : List Nat) : (a : AK) → a.ty → Value → List Nat → List Nat → Prop
  | .val k, x, v, cb, ob => v = valOf k x ∧ cb = [] ∧ ob = []
  | .list k, xs, v, cb, ob => ListOk w rb k xs v ∧ cb = [] ∧ ob = []
  | .lift k, xs, v, cb, ob => (∃ u, v = .agg #[u] ∧ ListOk w rb k xs u) ∧ cb = [] ∧ ob = []
  | .cell t k, x, v, cb, ob => ∃ b, v = .pointer (some ⟨b, 0, none⟩) ∧ w.heap[b]? = some (.cells (List.toArray (valCells k x)) t (0, 0)) ∧ cb = [b] ∧ ob = []
  | .lcell t k, xs, v, cb, ob => ∃ b u, v = .pointer (some ⟨b, 0, none⟩) ∧ w.heap[b]? = some (.cells #[u] t (0, 0)) ∧ b ∈ rb ∧ ListOk w rb k xs u ∧ cb = [] ∧ ob = []
  | .own e k, (xs : List k.ty), v, cb, ob => w.ownsRow 0 e k.size v xs.length (flat k xs) ∧ cb = [] ∧ ob = v.ownBlock.toList
  | .mrow e k, (xs : List k.ty), v, cb, ob => w.ownsRow 0 e k.size v xs.length (flat k xs) ∧ cb = v.ownBlock.toList ∧ ob = []
  | .mlift e k, (xs : List k.ty), v, cb, ob => ∃ u, v = .agg #[u] ∧ w.ownsRow 0 e k.size u xs.length (flat k xs) ∧ cb = u.ownBlock.toList ∧ ob = []
  | .clo k, (D, p), v, cb, ob => CloOk P w rb k D p v ∧ cb = [] ∧ ob = []
  | .cmp k, (D, p), v, cb, ob => CmpOk P k D p v ∧ cb = [] ∧ ob = []

def ArgsOk (P : Program) (w : World) (rb : List Nat) : (ks : List AK) → AKs ks → List Value → List Nat → List Nat → Prop
  | [], _, [], cb, ob => cb = [] ∧ ob = []
  | a :: ks, (x, y), v :: vs, cb, ob => ∃ c1 o1 c2 o2, ArgOk P w rb a x v c1 o1 ∧ ArgsOk P w rb ks y vs c2 o2 ∧ cb = c1 ++ c2 ∧ ob = o1 ++ o2
  | _, _, _, _, _ => False

def RessOk (w : World) : (rs : List RK) → RKs rs → List Value → List Nat → Prop
  | [], _, [], l => l = []
  | .val k :: rs, (x, y), u :: us, l => u = valOf k x ∧ RessOk w rs y us l
  | .skip :: rs, (_, y), _ :: us, l => RessOk w rs y us l
  | .list e k :: rs, ((x : List k.ty), y), u :: us, l => ∃ l', w.ownsRow 0 e k.size u x.length (flat k x) ∧ l = u.ownBlock.toList ++ l' ∧ RessOk w rs y us l'
  | .part k :: rs, ((x : List k.ty), y), u :: us, l => ∃ l1 l', ListOk w l1 k x u ∧ l = l1 ++ l' ∧ RessOk w rs y us l'
  | .lift e k :: rs, ((x : List k.ty), y), u :: us, l => ∃ l' v, u = .agg #[v] ∧ w.ownsRow 0 e k.size v x.length (flat k x) ∧ l = v.ownBlock.toList ++ l' ∧ RessOk w rs y us l'
  | _, _, _, _ => False

def OutsOk (w : World) : (ks : List AK) → List Value → AKo ks → List Nat → Prop
  | [], _, _, _ => True
  | .cell t k :: ks, _ :: vs, (o, o'), b :: cb => w.heap[b]? = some (.cells (List.toArray (valCells k o)) t (0, 0)) ∧ OutsOk w ks vs o' cb
  | .cell _ _ :: _, _ :: _, _, [] => False
  | .mrow e k :: ks, v :: vs, ((o : List k.ty), o'), cb => ∃ c2, cb = v.ownBlock.toList ++ c2 ∧ w.ownsRow 0 e k.size v o.length (flat k o) ∧ OutsOk w ks vs o' c2
  | .mlift e k :: ks, v :: vs, ((o : List k.ty), o'), cb => ∃ u c2, v = .agg #[u] ∧ cb = u.ownBlock.toList ++ c2 ∧ w.ownsRow 0 e k.size u o.length (flat k o) ∧ OutsOk w ks vs o' c2
  | .val _ :: ks, _ :: vs, o, cb => OutsOk w ks vs o cb
  | .list _ :: ks, _ :: vs, o, cb => OutsOk w ks vs o cb
  | .lift _ :: ks, _ :: vs, o, cb => OutsOk w ks vs o cb
  | .lcell _ _ :: ks, _ :: vs, o, cb => OutsOk w ks vs o cb
  | .own _ _ :: ks, _ :: vs, o, cb => OutsOk w ks vs o cb
  | .clo _ :: ks, _ :: vs, o, cb => OutsOk w ks vs o cb
  | .cmp _ :: ks, _ :: vs, o, cb => OutsOk w ks vs o cb
  | _ :: _, [], _, _ => False

def packV : List Value → Value
  | [v] => v
  | vs => .tuple vs.toArray

/-- The slices that were handed in hold what is said of them. -/
def RawsOk (w : World) (rb : List Nat) : (ks : List AK) → AKs ks → Prop
  | [], _ => TabsOk w rb TABS
  | .val .raw :: ks, (x, y) => ListOk w rb (.num .u8) x.bs x.u ∧ RawsOk w rb ks y
  | .cell _ .cur :: ks, (x, y) => ListOk w rb (.num .u8) x.r.bs x.r.u ∧ RawsOk w rb ks y
  | _ :: ks, (_, y) => RawsOk w rb ks y

/-- the call's own arguments -/
def packA (f : Nat) (vs : List Value) : List Value := match lookP f PACK with
  | none => vs
  | some (g, m) => vs.take m ++ [.func (.func g) #[] (vs.drop m).toArray]

theorem packA_no {f : Nat} (h : noPk f = true) (vs : List Value) : packA f vs = vs := by
  unfold noPk at h
  unfold packA
  split at h
  · rename_i e; rw [e]
  · cases h

/-- The contract: what the function does at all that fits. -/
def GSpec (P : Program) (s : Sig) : Prop :=
  ∀ (x : AKs s.ks) (vs : List Value) (w : World) (rb cb ob : List Nat), ArgsOk P w rb s.ks x vs cb ob → RawsOk w rb s.ks x → (cb ++ ob).Nodup → (∀ b ∈ cb ++ ob, b ∉ rb) → andL (s.eff x).pre →
    Calls P s.f (packA s.f vs).toArray w fun e w' => ∃ us l, e = .returned (packV us) ∧ RessOk w' s.rs (s.eff x).res us l ∧ l.Nodup ∧ (∀ b ∈ l, w.heap.size ≤ b ∨ b ∈ ob) ∧
      OutsOk w' s.ks vs (s.eff x).out cb ∧ Kept (fun b => b ∈ cb ∨ b ∈ ob) w w'

theorem rawsTab {w : World} {rb : List Nat} : ∀ {ks : List AK} {x : AKs ks}, RawsOk w rb ks x → TabsOk w rb TABS
  | [], _, h => h
  | k :: ks, (x, y), h => by
    cases k
    case val k => cases k <;> first | exact rawsTab (ks := ks) (x := y) h.2 | exact rawsTab (ks := ks) (x := y) h
    case cell t k => cases k <;> first | exact rawsTab (ks := ks) (x := y) h.2 | exact rawsTab (ks := ks) (x := y) h
    all_goals exact rawsTab (ks := ks) (x := y) h

theorem noRaw_ok {w : World} {rb : List Nat} (ht : TabsOk w rb TABS) : ∀ {ks : List AK} {x : AKs ks}, noRaw ks = true → RawsOk w rb ks x
  | [], _, _ => ht
  | k :: ks, (x, y), h => by
    cases k
    case val k => cases k <;> first | cases h | exact noRaw_ok ht (ks := ks) (x := y) h
    case cell t k => cases k <;> first | cases h | exact noRaw_ok ht (ks := ks) (x := y) h
    all_goals exact noRaw_ok ht (ks := ks) (x := y) h

def CloF (P : Program) (X : Cx) : CloE → Value → Prop
  | .clo k D p, v => CloOk P X.w0 X.rc k D p v
  | .cmp k D p, v => CmpOk P k D p v
  | .raw r, _ => ListOk X.w0 X.rc (.num .u8) r.bs r.u

def CloE.isRaw : CloE → Bool
  | .raw _ => true
  | _ => false

/-- What is known of the functions that are called. -/
structure KnowOk (P : Program) (X : Cx) (Γ : List Sig) (C : List (Nat × CloE)) : Prop where
  sig : ∀ s ∈ Γ, GSpec P s
  fn : ∀ s ∈ Γ, FnOk P s.f
  clo : ∀ id e, lookC id C = some e → (e.isRaw = false → X.i0 id = true) ∧ CloF P X e (X.g0 id).v
  rc : ∀ b ∈ X.rc, b < X.w0.heap.size ∧ ¬ X.Wr b
  tab : TabsOk X.w0 X.rc TABS

theorem findSig_mem {f : Nat} : ∀ {Γ : List Sig} {s : Sig}, findSig f Γ = some s → s ∈ Γ ∧ s.f = f
  | [], _, h => by cases h
  | t :: r, s, h => by
    unfold findSig at h
    split at h
    · rename_i e
      cases h
      exact ⟨List.mem_cons_self, (Nat.eq_of_beq_eq_true e).symm⟩
    · have := findSig_mem h
      exact ⟨List.mem_cons_of_mem _ this.1, this.2⟩

section
variable {P : Program} {Γ : List Sig} {C : List (Nat × CloE)} {X : Cx} {st : St} {a : Act} {w : World} {γ : Nat → Gh} {hr : Nat → Option Ob}

theorem sub_blk {i : Nat} {ad : Addr} (h : (γ i).a = some ad) : blk γ i = some ad.block := by simp [blk, h]

theorem listOf_ok (R : Rel X st a w γ) (hs : ∀ i o, hr i = some o → st.hp i = some o) {k : VK} {sv : SV} {xs : List k.ty} {v : Value} (h : listOf hr k sv = some xs) (hd : denV st.ids γ sv v)
    {rb : List Nat} (hrb : ∀ i ∈ idsSV sv, ∀ o b, st.hp i = some o → blk γ i = some b → b ∈ rb) : ListOk w rb k xs v := by
  unfold listOf at h
  split at h
  · cases h
    exact ⟨none, 0, hd, Nat.le_refl _, Nat.zero_le _, fun h => by cases h⟩
  · rename_i id
    split at h
    · rename_i e k' ys hy
      obtain ⟨hf, hl, hk⟩ := castL_flat h
      obtain ⟨_, hv⟩ := hd
      obtain ⟨hsz, hn, ho⟩ := R.ob _ _ (hs _ _ hy)
      rcases ho.2 with ⟨hv0, hn0⟩ | ⟨g, cap, cur, hv1, hb, hg, hnc, hcm, hcs, htake⟩
      · have hx : xs.length = 0 := by rw [← hl]; exact hn0
        rw [hv, hv0]
        exact ⟨none, 0, by rw [hx], by omega, by omega, fun h => by omega⟩
      · rw [hv, hv1, hl]
        refine ⟨some ⟨g, 0, none⟩, cap, rfl, by omega, by omega, fun _ => ⟨_, rfl, ?_, ?_, ?_⟩⟩
        · injection hv1 with ha
          exact hrb id (by simp [idsSV, idsSc]) _ g (hs _ _ hy) (by rw [sub_blk ha])
        · exact (Array.getElem?_eq_some_iff.1 hg).1
        · rw [← hf]
          rw [hv1] at ho
          exact ho.cells rfl
    · cases h
  · rename_i id off len
    obtain ⟨_, hbd, a', c, hv, hlc, ha⟩ := hd
    -- the common end: the cells of the whole are at hand
    have fin : ∀ {k' : VK} {ys : List k'.ty} {zs : List k.ty}, VK.castL k' k ys = some zs → (zs.drop off).take len = xs → (γ id).sz = k'.size → (γ id).n = ys.length → ys.length ≤ maxLen →
        (0 < ys.length → ∃ ad, (γ id).a = some ad ∧ ad.block < w.heap.size ∧ ∀ j u, (flat k' ys)[j]? = some u → w.cell? (ad.add j) = some u) → ∀ o, st.hp id = some o → ListOk w rb k xs v := by
      intro k' ys zs hc hx hsz hn hmx hcell o hhp
      obtain ⟨hf, hl, hk⟩ := castL_flat hc
      subst hk
      have hlen : xs.length = len := by rw [← hx, List.length_take, List.length_drop]; omega
      refine ⟨a', c, by rw [hlen]; exact hv, by omega, by omega, fun hpos => ?_⟩
      obtain ⟨ad, had, ha', hc0⟩ := ha (by omega)
      obtain ⟨ad2, had2, hbl, hcl⟩ := hcell (by omega)
      rw [had] at had2
      cases had2
      have hb : (ad.add (off * (γ id).sz)).block = ad.block := by unfold Addr.add; split <;> rfl
      refine ⟨_, ha', ?_, ?_, fun j u hu => ?_⟩
      · rw [hb]; exact hrb id (by simp [idsSV, idsSc]) o _ hhp (sub_blk had)
      · rw [hb]; exact hbl
      · rw [← hx, flat_take, flat_drop, ← hf, List.getElem?_take] at hu
        split at hu
        · rw [List.getElem?_drop, ← hsz] at hu
          rw [Deep.add_add]
          exact hcl _ u hu
        · cases hu
    split at h
    · rename_i k' ys hy
      cases hc : VK.castL k' k ys with
      | none => rw [hc] at h; cases h
      | some zs =>
        rw [hc] at h
        simp only [Option.map_some, Option.some.injEq] at h
        obtain ⟨hsz, hn, hmx, hb, hcl⟩ := R.ob _ _ (hs _ _ hy)
        refine fin hc h hsz hn hmx (fun hp => ?_) _ (hs _ _ hy)
        obtain ⟨ad, had, hcc⟩ := hcl hp
        exact ⟨ad, had, hb ad had, hcc⟩
    · rename_i k' ys hy
      cases hc : VK.castL k' k ys with
      | none => rw [hc] at h; cases h
      | some zs =>
        rw [hc] at h
        simp only [Option.map_some, Option.some.injEq] at h
        obtain ⟨hsz, hn, hmx, hb, hcl⟩ := R.ob _ _ (hs _ _ hy)
        refine fin hc h hsz hn hmx (fun hp => ?_) _ (hs _ _ hy)
        obtain ⟨ad, had, hcc⟩ := hcl hp
        exact ⟨ad, had, hb ad had, hcc⟩
    · rename_i e k' ys hy
      cases hc : VK.castL k' k ys with
      | none => rw [hc] at h; cases h
      | some zs =>
        rw [hc] at h
        simp only [Option.map_some, Option.some.injEq] at h
        obtain ⟨hsz, hn, ho⟩ := R.ob _ _ (hs _ _ hy)
        rcases ho.2 with ⟨hv0, hn0⟩ | ⟨g, cap, cur, hv1, hb, hg, hnc, hcm, hcs, htake⟩
        · exact fin hc h hsz hn (by omega) (fun hp => by omega) _ (hs _ _ hy)
        · refine fin hc h hsz hn (by omega) (fun hp => ?_) _ (hs _ _ hy)
          have hv2 := hv1
          injection hv1 with had
          refine ⟨_, had, (Array.getElem?_eq_some_iff.1 hg).1, ?_⟩
          rw [hv2] at ho
          exact ho.cells rfl
    · cases h
  · cases h

/-- The value at a list that is read off as a box. -/
theorem boxOf_ok (R : Rel X st a w γ) (hs : ∀ i o, hr i = some o → st.hp i = some o) {sv : SV} {t : Nat} {cs : List Sc} {v : Value} (h : boxOf hr sv = some (t, cs)) (hd : denV st.ids γ sv v) :
    ∃ id b vs, sv = .sc (.ref id 0) ∧ st.hp id = some (.box t cs) ∧ (γ id).a = some ⟨b, 0, none⟩ ∧ v = .pointer (some ⟨b, 0, none⟩) ∧ w.heap[b]? = some (.cells (List.toArray vs) t (0, 0)) ∧ denL st.ids γ cs vs := by
  unfold boxOf at h
  split at h
  · rename_i id
    split at h
    · rename_i t' cs' hy
      cases h
      obtain ⟨b, vs, ha, hh, hl⟩ := R.ob _ _ (hs _ _ hy)
      obtain ⟨_, ad, had, hv⟩ := hd
      rw [ha] at had
      cases had
      exact ⟨id, b, vs, rfl, hs _ _ hy, ha, by rw [hv]; simp [Addr.add], hh, hl⟩
    · cases h
  · cases h

theorem rboxOf_ok (R : Rel X st a w γ) (hs : ∀ i o, hr i = some o → st.hp i = some o) {sv : SV} {t : Nat} {cs : List Sc} {v : Value} (h : rboxOf hr sv = some (t, cs)) (hd : denV st.ids γ sv v) :
    ∃ id b vs o, sv = .sc (.ref id 0) ∧ st.hp id = some o ∧ (γ id).a = some ⟨b, 0, none⟩ ∧ v = .pointer (some ⟨b, 0, none⟩) ∧ w.heap[b]? = some (.cells (List.toArray vs) t (0, 0)) ∧ denL st.ids γ cs vs := by
  unfold rboxOf at h
  split at h
  · rename_i id
    split at h
    · rename_i t' cs' hy
      cases h
      obtain ⟨b, vs, ha, hh, hl⟩ := R.ob _ _ (hs _ _ hy)
      obtain ⟨_, ad, had, hv⟩ := hd
      rw [ha] at had
      cases had
      exact ⟨id, b, vs, _, rfl, hs _ _ hy, ha, by rw [hv]; simp [Addr.add], hh, hl⟩
    · rename_i t' cs' hy
      cases h
      obtain ⟨b, vs, ha, hh, hl⟩ := R.ob _ _ (hs _ _ hy)
      obtain ⟨_, ad, had, hv⟩ := hd
      rw [ha] at had
      cases had
      exact ⟨id, b, vs, _, rfl, hs _ _ hy, ha, by rw [hv]; simp [Addr.add], hh, hl⟩
    · cases h
  · cases h

theorem Like.refl (rb : List Nat) (w : World) : Like rb w w := ⟨Nat.le_refl _, fun _ _ _ => rfl⟩

theorem ListOk.like {rb : List Nat} {w w' : World} {k : VK} {xs : List k.ty} {v : Value} (h : ListOk w rb k xs v) (hl : Like rb w w') : ListOk w' rb k xs v := by
  obtain ⟨a, c, hv, h1, h2, h3⟩ := h
  refine ⟨a, c, hv, h1, h2, fun hp => ?_⟩
  obtain ⟨ad, ha, hb, hlt, hc⟩ := h3 hp
  refine ⟨ad, ha, hb, Nat.lt_of_lt_of_le hlt hl.1, fun j u hu => ?_⟩
  have hbl : (ad.add j).block = ad.block := by unfold Addr.add; split <;> rfl
  rw [World.cell?_of_block (w := w) (a := ad.add j) (by rw [hbl]; exact hl.2 _ hb hlt)]
  exact hc j u hu

/-- The captured variables that may be written; those that hold slices. -/
def capC : List AK → List (Nat × Nat) → List Nat
  | .cell _ _ :: ks, p :: r => p.1 :: capC ks r
  | _ :: ks, _ :: r => capC ks r
  | _, _ => []
def capR : List AK → List (Nat × Nat) → List Nat
  | .lcell _ _ :: ks, p :: r => p.1 :: capR ks r
  | _ :: ks, _ :: r => capR ks r
  | _, _ => []

theorem capC_mem : ∀ {ks : List AK} {cap : List (Nat × Nat)} {i : Nat}, i ∈ capC ks cap → i ∈ cap.map (·.1)
  | [], _, _, h => by cases h
  | k :: ks, [], _, h => by cases k <;> cases h
  | k :: ks, p :: r, i, h => by
    cases k
    case cell t k =>
      simp only [capC, List.mem_cons] at h
      rcases h with rfl | h
      · simp
      · exact List.mem_cons_of_mem _ (capC_mem h)
    all_goals exact List.mem_cons_of_mem _ (capC_mem (ks := ks) h)

theorem cap_apart : ∀ {ks : List AK} {cap : List (Nat × Nat)}, (cap.map (·.1)).Nodup → ∀ i ∈ capR ks cap, i ∉ capC ks cap
  | [], _, _, _, h => by cases h
  | k :: ks, [], _, _, h => by cases k <;> cases h
  | k :: ks, p :: r, hn, i, h => by
    simp only [List.map_cons, List.nodup_cons] at hn
    cases k
    case cell t k =>
      simp only [capC, List.mem_cons, not_or]
      refine ⟨?_, cap_apart hn.2 i h⟩
      rintro rfl
      -- a slice's variable further on is a captured one
      have : ∀ {ks : List AK} {r : List (Nat × Nat)} {i : Nat}, i ∈ capR ks r → i ∈ r.map (·.1) := by
        intro ks
        induction ks with
        | nil => intro r i h; cases h
        | cons k ks ih =>
          intro r i h
          cases r with
          | nil => cases k <;> cases h
          | cons p r =>
            cases k
            case lcell t k =>
              simp only [capR, List.mem_cons] at h
              rcases h with rfl | h
              · simp
              · exact List.mem_cons_of_mem _ (ih h)
            all_goals exact List.mem_cons_of_mem _ (ih (r := r) h)
      exact hn.1 (this h)
    case lcell t k =>
      simp only [capR, List.mem_cons] at h
      simp only [capC]
      rcases h with rfl | h
      · exact fun hc => hn.1 (capC_mem hc)
      · exact cap_apart hn.2 i h
    all_goals exact cap_apart (ks := ks) hn.2 i h

/-- What a closure has captured. -/
theorem capsOf_ok (R : Rel X st a w γ) (hs : ∀ i o, hr i = some o → st.hp i = some o) (rb nb : List Nat) (full : List Nat)
    (hfull : ∀ i ∈ full, ∃ t cs, st.hp i = some (.box t cs)) (hnb : ∀ b ∈ nb, ∃ i ∈ full, blk γ i = some b) : ∀ (ks : List AK) (cap : List (Nat × Nat)) (vs : List Value) (y : AKs ks) (o : AKo ks),
    capsOf hr ks cap = some (y, o) → denCap st.ids γ cap vs → (∀ p ∈ cap, ∀ o b, st.hp p.1 = some o → blk γ p.1 = some b → b ∈ rb) → (∀ p ∈ cap, ∀ i ∈ boxIds hr p.1, ∀ o b, st.hp i = some o → blk γ i = some b → b ∈ rb) →
    (∀ i ∈ capR ks cap, i ∉ full) →
    ∃ cb, (∀ b ∈ cb, b ∈ rb ∧ b < w.heap.size) ∧ cb.map some = (capC ks cap).map (blk γ) ∧ (∀ i ∈ capC ks cap, ∃ t cs, st.hp i = some (.box t cs)) ∧
      ∀ w', Like rb w w' → ArgsOk P w' (rb.filter fun b => !nb.contains b) ks y vs cb [] ∧ OutsOk w' ks vs o cb
  | [], [], [], _, _, _, _, _, _, _ => ⟨[], (fun _ h => by cases h), rfl, (fun _ h => by cases h), fun _ _ => ⟨⟨rfl, rfl⟩, trivial⟩⟩
  | [], [], _ :: _, _, _, _, hd, _, _, _ => hd.elim
  | [], _ :: _, _, _, _, h, _, _, _, _ => by cases h
  | .cell t k :: ks, (id, off) :: r, v :: vs, y, o, h, hd, h1, h2, h3 => by
    simp only [capsOf] at h
    split at h
    · rename_i t' cs hbox
      split at h
      · rename_i x y' o' ht hx hy
        cases h
        have ht := Nat.eq_of_beq_eq_true ht
        subst ht
        obtain ⟨hd1, hd2⟩ := hd
        obtain ⟨id', b, ws, hsv, hhp, hga, hv, hheap, hden⟩ := boxOf_ok R hs hbox (v := v) (by exact hd1)
        cases hsv
        obtain ⟨cb, c1, c2, c3, c4⟩ := capsOf_ok R hs rb nb full hfull hnb ks r vs y' o' hy hd2 (fun p hp => h1 p (List.mem_cons_of_mem _ hp)) (fun p hp => h2 p (List.mem_cons_of_mem _ hp)) h3
        have hbl : blk γ id = some b := sub_blk hga
        have hbr : b ∈ rb := h1 (id, 0) List.mem_cons_self _ b hhp hbl
        have hlt : b < w.heap.size := (Array.getElem?_eq_some_iff.1 hheap).1
        have hws := dec_den hx hden
        refine ⟨b :: cb, fun b' hb' => ?_, ?_, fun i hi => ?_, fun w' hw' => ?_⟩
        · rcases List.mem_cons.1 hb' with rfl | hb'
          · exact ⟨hbr, hlt⟩
          · exact c1 b' hb'
        · simp only [List.map_cons, capC, hbl, c2]
        · simp only [capC, List.mem_cons] at hi
          rcases hi with rfl | hi
          · exact ⟨_, _, hhp⟩
          · exact c3 i hi
        · have hh' : w'.heap[b]? = some (.cells (List.toArray (valCells k x)) t' (0, 0)) := by rw [hw'.2 b hbr hlt, hheap, hws]
          obtain ⟨d1, d2⟩ := c4 w' hw'
          exact ⟨⟨[b], [], cb, [], ⟨b, hv, hh', rfl, rfl⟩, d1, rfl, rfl⟩, hh', d2⟩
      · cases h
    · cases h
  | .lcell t k :: ks, (id, off) :: r, v :: vs, y, o, h, hd, h1, h2, h3 => by
    simp only [capsOf] at h
    split at h
    · rename_i t' s hbox
      split at h
      · rename_i x y' o' ht hx hy
        cases h
        have ht := Nat.eq_of_beq_eq_true ht
        subst ht
        obtain ⟨hd1, hd2⟩ := hd
        obtain ⟨id', b, ws, hsv, hhp, hga, hv, hheap, hden⟩ := boxOf_ok R hs hbox (v := v) (by exact hd1)
        cases hsv
        obtain ⟨cb, c1, c2, c3, c4⟩ := capsOf_ok R hs rb nb full hfull hnb ks r vs y' _ hy hd2 (fun p hp => h1 p (List.mem_cons_of_mem _ hp)) (fun p hp => h2 p (List.mem_cons_of_mem _ hp)) (fun i hi => h3 i (List.mem_cons_of_mem _ hi))
        have hbl : blk γ id = some b := sub_blk hga
        have hbr : b ∈ rb := h1 (id, 0) List.mem_cons_self _ b hhp hbl
        have hlt : b < w.heap.size := (Array.getElem?_eq_some_iff.1 hheap).1
        have hid : id ∉ full := h3 id List.mem_cons_self
        have far : ∀ i p c, st.hp i = some p → i ∉ full → blk γ i = some c → c ∉ nb := by
          intro i p c hp hi hc hcn
          obtain ⟨j, hj, hjb⟩ := hnb c hcn
          obtain ⟨t2, cs2, hj2⟩ := hfull j hj
          rcases R.sep i j p _ c hp hj2 hc hjb with e | ⟨_, e⟩
          · exact hi (e ▸ hj)
          · cases e
        match ws, hden with
        | [u], hden =>
          have hids : ∀ i ∈ idsSV (.sc s), ∀ q c, st.hp i = some q → blk γ i = some c → c ∈ rb.filter fun b => !nb.contains b := by
            intro i hi q c hq hc
            have hmem : i ∈ boxIds hr id := by
              unfold boxOf at hbox
              split at hbox
              · rename_i i0 heq
                cases heq
                split at hbox
                · rename_i heq2
                  cases hbox
                  simp only [boxIds, heq2]
                  simpa [idsSV] using hi
                · cases hbox
              · cases hbox
            rw [List.mem_filter]
            refine ⟨h2 (id, 0) List.mem_cons_self i hmem q c hq hc, ?_⟩
            -- the slice's own object is no box
            have hno : ∃ p, st.hp i = some p ∧ ∀ t cs, p ≠ .box t cs := by
              unfold listOf at hx
              split at hx
              · rename_i heq; cases heq; simp [idsSV, idsSc] at hi
              · rename_i i1 heq
                cases heq
                simp [idsSV, idsSc] at hi
                subst hi
                split at hx
                · rename_i hq; exact ⟨_, hs _ _ hq, fun t cs e => by cases e⟩
                · cases hx
              · rename_i i1 o1 l1 heq
                cases heq
                simp [idsSV, idsSc] at hi
                subst hi
                split at hx
                · rename_i hq; exact ⟨_, hs _ _ hq, fun t cs e => by cases e⟩
                · rename_i hq; exact ⟨_, hs _ _ hq, fun t cs e => by cases e⟩
                · rename_i hq; exact ⟨_, hs _ _ hq, fun t cs e => by cases e⟩
                · cases hx
              · cases hx
            obtain ⟨p, hp, hpb⟩ := hno
            have := far i p c hp (fun hf => by obtain ⟨t2, cs2, h2⟩ := hfull i hf; rw [hp] at h2; cases h2; exact hpb _ _ rfl) hc
            simpa using this
          have hL := listOf_ok R hs hx (v := u) hden.1 hids
          refine ⟨cb, c1, c2, c3, fun w' hw' => ?_⟩
          have hw2 : Like (rb.filter fun b => !nb.contains b) w w' := ⟨hw'.1, fun b hb hl => hw'.2 b (List.mem_filter.1 hb).1 hl⟩
          obtain ⟨d1, d2⟩ := c4 w' hw'
          refine ⟨⟨[], [], cb, [], ⟨b, u, hv, (hw'.2 b hbr hlt).trans hheap, ?_, hL.like hw2, rfl, rfl⟩, d1, rfl, rfl⟩, d2⟩
          rw [List.mem_filter]
          exact ⟨hbr, by simpa using far id _ b hhp hid hbl⟩
      · cases h
    · cases h
  | .cell _ _ :: _, [], _, _, _, h, _, _, _, _ => by cases h
  | .lcell _ _ :: _, [], _, _, _, h, _, _, _, _ => by cases h
  | .cell _ _ :: _, _ :: _, [], _, _, _, hd, _, _, _ => hd.elim
  | .lcell _ _ :: _, _ :: _, [], _, _, _, hd, _, _, _ => hd.elim
  | .val _ :: _, _, _, _, _, h, _, _, _, _ => by cases h
  | .list _ :: _, _, _, _, _, h, _, _, _, _ => by cases h
  | .lift _ :: _, _, _, _, _, h, _, _, _, _ => by cases h
  | .own _ _ :: _, _, _, _, _, h, _, _, _, _ => by cases h
  | .mrow _ _ :: _, _, _, _, _, h, _, _, _, _ => by cases h
  | .mlift _ _ :: _, _, _, _, _, h, _, _, _, _ => by cases h
  | .clo _ :: _, _, _, _, _, h, _, _, _, _ => by cases h
  | .cmp _ :: _, _, _, _, _, h, _, _, _, _ => by cases h

theorem capsOf_box : ∀ {ks : List AK} {cap : List (Nat × Nat)} {z : AKs ks × AKo ks}, capsOf hr ks cap = some z → ∀ i ∈ capC ks cap, ∃ t cs, hr i = some (.box t cs)
  | [], _, _, _, _, h => by cases h
  | k :: ks, [], _, _, _, h => by cases k <;> cases h
  | .cell t k :: ks, (id, off) :: r, z, h, i, hi => by
    simp only [capsOf] at h
    split at h
    · rename_i t' cs hbox
      split at h
      · rename_i x y' o' ht hx hy
        simp only [capC, List.mem_cons] at hi
        rcases hi with rfl | hi
        · unfold boxOf at hbox
          split at hbox
          · rename_i i0 heq
            cases heq
            split at hbox
            · rename_i hq; exact ⟨_, _, hq⟩
            · cases hbox
          · cases hbox
        · exact capsOf_box hy i hi
      · cases h
    · cases h
  | .lcell t k :: ks, (id, off) :: r, z, h, i, hi => by
    simp only [capsOf] at h
    split at h
    · split at h
      · rename_i hy
        exact capsOf_box hy i hi
      · cases h
    · cases h
  | .val _ :: _, _ :: _, _, h, _, _ => by cases h
  | .list _ :: _, _ :: _, _, h, _, _ => by cases h
  | .lift _ :: _, _ :: _, _, h, _, _ => by cases h
  | .own _ _ :: _, _ :: _, _, h, _, _ => by cases h
  | .mrow _ _ :: _, _ :: _, _, h, _, _ => by cases h
  | .mlift _ _ :: _, _ :: _, _, h, _, _ => by cases h
  | .clo _ :: _, _ :: _, _, h, _, _ => by cases h
  | .cmp _ :: _, _ :: _, _, h, _, _ => by cases h

def noM : List AK → Bool
  | [] => true
  | .mrow _ _ :: _ => false
  | .mlift _ _ :: _ => false
  | _ :: ks => noM ks

theorem capsOf_noM : ∀ {ks : List AK} {cap : List (Nat × Nat)} {z : AKs ks × AKo ks}, capsOf hr ks cap = some z → noM ks = true
  | [], _, _, _ => rfl
  | .cell t k :: ks, p :: r, z, h => by
    simp only [capsOf] at h
    split at h
    · split at h
      · rename_i hy
        exact capsOf_noM (ks := ks) hy
      · cases h
    · cases h
  | .lcell t k :: ks, p :: r, z, h => by
    simp only [capsOf] at h
    split at h
    · split at h
      · rename_i hy
        exact capsOf_noM (ks := ks) hy
      · cases h
    · cases h
  | .cell _ _ :: _, [], _, h => by cases h
  | .lcell _ _ :: _, [], _, h => by cases h
  | .val _ :: _, cap, _, h => by cases cap <;> cases h
  | .list _ :: _, cap, _, h => by cases cap <;> cases h
  | .lift _ :: _, cap, _, h => by cases cap <;> cases h
  | .own _ _ :: _, cap, _, h => by cases cap <;> cases h
  | .mrow _ _ :: _, cap, _, h => by cases cap <;> cases h
  | .mlift _ _ :: _, cap, _, h => by cases cap <;> cases h
  | .clo _ :: _, cap, _, h => by cases cap <;> cases h
  | .cmp _ :: _, cap, _, h => by cases cap <;> cases h

theorem outs_same {w' w'' : World} {rb : List Nat} : ∀ {ks : List AK} {y : AKs ks} {vs : List Value} {cb ob : List Nat} {o : AKo ks}, noM ks = true → ArgsOk P w rb ks y vs cb ob → OutsOk w' ks vs o cb → OutsOk w'' ks vs o cb →
    ∀ b ∈ cb, w''.heap[b]? = w'.heap[b]?
  | [], _, [], cb, ob, o, _, h, _, _ => by rw [h.1]; intro b hb; cases hb
  | [], _, _ :: _, _, _, _, _, h, _, _ => h.elim
  | k :: ks, y, [], _, _, _, _, h, _, _ => by cases k <;> exact h.elim
  | k :: ks, (x, y), v :: vs, cb, ob, o, hm, ⟨c1, o1, c2, o2, ha, hr, hc, ho⟩, h1, h2 => by
    subst hc
    cases k
    case cell t k =>
      obtain ⟨b, _, _, rfl, _⟩ := ha
      obtain ⟨o, o'⟩ := o
      intro b' hb'
      simp only [List.cons_append, List.nil_append, List.mem_cons] at hb'
      rcases hb' with rfl | hb'
      · exact h2.1.trans h1.1.symm
      · exact outs_same (ks := ks) hm hr h1.2 h2.2 b' hb'
    case mrow e k => cases hm
    case mlift e k => cases hm
    case lcell t k =>
      obtain ⟨_, _, _, _, _, _, rfl, _⟩ := ha
      exact outs_same (ks := ks) hm hr h1 h2
    all_goals
      obtain ⟨_, rfl, _⟩ := ha
      exact outs_same (ks := ks) hm hr h1 h2

theorem castF_eq {α : Type} {k k' : VK} {f : k.ty → α} {g : k'.ty → α} (h : VK.castF α k k' f = some g) : ∃ e : k = k', g = e ▸ f := by
  cases k <;> cases k' <;> simp only [VK.castF] at h <;> first
    | (cases h; exact ⟨rfl, rfl⟩)
    | (cases h; done)
    | (split at h
       · rename_i hs
         have := sameK_eq hs
         subst this
         cases h
         exact ⟨rfl, rfl⟩
       · cases h)

theorem castF2_eq {α : Type} {k k' : VK} {f : k.ty → k.ty → α} {g : k'.ty → k'.ty → α} (h : VK.castF2 α k k' f = some g) : ∃ e : k = k', g = e ▸ f := by
  cases k <;> cases k' <;> simp only [VK.castF2] at h <;> first
    | (cases h; exact ⟨rfl, rfl⟩)
    | (cases h; done)
    | (split at h
       · rename_i hs
         have := sameK_eq hs
         subst this
         cases h
         exact ⟨rfl, rfl⟩
       · cases h)

theorem map_blk_eq {ids : List Nat} {cb : List Nat} (h : cb.map some = ids.map (blk γ)) : cb = ids.filterMap (blk γ) := by
  induction ids generalizing cb with
  | nil => cases cb <;> simp_all
  | cons i ids ih =>
    cases cb with
    | nil => simp at h
    | cons b cb =>
      simp only [List.map_cons, List.cons.injEq] at h
      rw [List.filterMap_cons, ← h.1, ← ih h.2]

theorem blks_nodup (R : Rel X st a w γ) {ids : List Nat} (hn : ids.Nodup) (ho : ∀ i ∈ ids, ∃ o, st.hp i = some o ∧ o.wr = true) : (ids.filterMap (blk γ)).Nodup := by
  induction ids with
  | nil => simp
  | cons i ids ih =>
    simp only [List.nodup_cons] at hn
    have ih := ih hn.2 (fun j hj => ho j (List.mem_cons_of_mem _ hj))
    rw [List.filterMap_cons]
    split
    · exact ih
    · rename_i b hb
      refine List.nodup_cons.2 ⟨fun hm => ?_, ih⟩
      obtain ⟨j, hj, hjb⟩ := List.mem_filterMap.1 hm
      obtain ⟨o, h1, hw⟩ := ho i List.mem_cons_self
      obtain ⟨p, h2, _⟩ := ho j (List.mem_cons_of_mem _ hj)
      rcases R.sep i j o p b h1 h2 hb hjb with e | ⟨e, _⟩
      · exact hn.1 (e ▸ hj)
      · rw [hw] at e; cases e

theorem cloOf_ok (hΓ : KnowOk P X Γ C) (R : Rel X st a w γ) (hs : ∀ i o, hr i = some o → st.hp i = some o) {k : VK} {sv : SV} {D : k.ty → Prop} {p : k.ty → Bool} {v : Value}
    (h : cloOf Γ C hr k sv = some (D, p)) (hd : denV st.ids γ sv v) {rb : List Nat} (hrc : ∀ b ∈ X.rc, b ∈ rb) (h1 : ∀ i ∈ idsSV sv, ∀ o b, st.hp i = some o → blk γ i = some b → b ∈ rb) (h2 : ∀ i ∈ (idsSV sv).flatMap (boxIds hr), ∀ o b, st.hp i = some o → blk γ i = some b → b ∈ rb) :
    CloOk P w rb k D p v := by
  unfold cloOf at h
  split at h
  · rename_i id
    split at h
    · rename_i k' D' p' hl
      split at h
      · rename_i d q hc1 hc2
        cases h
        obtain ⟨e1, e2⟩ := castF_eq hc1
        subst e1
        obtain ⟨_, e3⟩ := castF_eq hc2
        obtain ⟨hi0', hcl⟩ := hΓ.clo _ _ hl
        have hi0 := hi0' rfl
        obtain ⟨hb1, hb2⟩ := R.base id hi0
        obtain ⟨_, hv⟩ := hd
        rw [hb2] at hv
        obtain ⟨f, caps, hfn, hv2, hcall⟩ := hcl
        refine ⟨f, caps, hfn, hv.trans hv2, fun w' hw' x hx => ?_⟩
        rw [e3]
        refine hcall w' ⟨Nat.le_trans R.kept.size hw'.1, fun b hb hlt => ?_⟩ x (by rw [e2] at hx; exact hx)
        obtain ⟨_, hnw⟩ := hΓ.rc b hb
        rw [hw'.2 b (hrc b hb) (Nat.lt_of_lt_of_le hlt R.kept.size)]
        exact R.kept.block b hlt hnw
      · cases h
    · cases h
  · rename_i f cap
    split at h
    · rename_i f' k' ks eff hf
      split at h
      · rename_i y o hnd hcap
        split at h
        · rename_i d q hc1 hc2
          cases h
          obtain ⟨e1, e2⟩ := castF_eq hc1
          subst e1
          obtain ⟨_, e3⟩ := castF_eq hc2
          obtain ⟨hm, hff⟩ := findSig_mem hf
          have hg := hΓ.sig _ hm
          have hfn := hΓ.fn _ hm
          simp only at hff hfn
          rw [hff] at hfn
          obtain ⟨vs, hv, hden⟩ := hd
          rw [Bool.and_eq_true, Bool.and_eq_true] at hnd
          obtain ⟨⟨hnd, hnr⟩, hpk⟩ := hnd
          have hnd' := distB_true hnd
          have hboxes : ∀ i ∈ capC ks cap, ∃ t cs, st.hp i = some (.box t cs) := fun i hi => by
            obtain ⟨t, cs, hb⟩ := capsOf_box hcap i hi
            exact ⟨t, cs, hs _ _ hb⟩
          have hmem : ∀ q ∈ cap, q.1 ∈ idsSV (.sc (.fn f cap)) := fun q hq => by
            simp only [idsSV, idsSc]
            exact List.mem_map_of_mem hq
          obtain ⟨cb, c1, c2, _, c4⟩ := capsOf_ok (P := P) R hs rb ((capC ks cap).filterMap (blk γ)) (capC ks cap) hboxes
            (fun b hb => by obtain ⟨i, hi, hb⟩ := List.mem_filterMap.1 hb; exact ⟨i, hi, hb⟩) ks cap vs y o hcap hden
            (fun q hq o b ho hb => h1 q.1 (hmem q hq) o b ho hb)
            (fun q hq i hi o b ho hb => h2 i (List.mem_flatMap.2 ⟨q.1, hmem q hq, hi⟩) o b ho hb)
            (cap_apart hnd')
          have hcb := map_blk_eq c2
          have hcn : cb.Nodup := by
            rw [hcb]
            exact blks_nodup R (by
              have : ∀ {ks : List AK} {cap : List (Nat × Nat)}, (cap.map (·.1)).Nodup → (capC ks cap).Nodup := by
                intro ks
                induction ks with
                | nil => intro cap _; simp [capC]
                | cons k ks ih =>
                  intro cap hn
                  cases cap with
                  | nil => cases k <;> simp [capC]
                  | cons p r =>
                    simp only [List.map_cons, List.nodup_cons] at hn
                    cases k
                    case cell t k => exact List.nodup_cons.2 ⟨fun h => hn.1 (capC_mem h), ih hn.2⟩
                    all_goals exact ih (cap := r) hn.2
              exact this hnd') (fun i hi => by obtain ⟨t, cs, hb⟩ := hboxes i hi; exact ⟨_, hb, rfl⟩)
          refine ⟨f, vs, hfn, hv, fun w' hw' x hx => ?_⟩
          rw [e2] at hx
          obtain ⟨hpre, hout⟩ := hx
          obtain ⟨d1, d2⟩ := c4 w' hw'
          have htab : TabsOk w' (rb.filter fun b => !((capC ks cap).filterMap (blk γ)).contains b) TABS := hΓ.tab.to fun b hb hlt => by
            obtain ⟨_, hnw⟩ := hΓ.rc b hb
            have hlt2 : b < w.heap.size := Nat.lt_of_lt_of_le hlt R.kept.size
            refine ⟨List.mem_filter.2 ⟨hrc b hb, ?_⟩, Nat.lt_of_lt_of_le hlt2 hw'.1, (hw'.2 b (hrc b hb) hlt2).trans (R.kept.block b hlt hnw)⟩
            have : b ∉ (capC ks cap).filterMap (blk γ) := fun h => by
              obtain ⟨i, hi, hib⟩ := List.mem_filterMap.1 h
              obtain ⟨t, cs, ho⟩ := hboxes i hi
              rcases R.lo i _ b ho rfl hib with h3 | h3
              · omega
              · exact hnw h3
            simpa using this
          have hC := hg (x, y) (valOf k' x :: vs) w' (rb.filter fun b => !((capC ks cap).filterMap (blk γ)).contains b) cb [] ⟨[], [], cb, [], ⟨rfl, rfl, rfl⟩, d1, rfl, rfl⟩ (noRaw_ok htab hnr) (by simpa using hcn)
            (fun b hb hbr => by
              simp only [List.append_nil] at hb
              rw [List.mem_filter] at hbr
              rw [hcb] at hb
              simpa [hb] using hbr.2) hpre
          simp only [hff, packA_no hpk] at hC
          refine hC.mono ?_
          rintro e w'' ⟨us, l, he, hres, _, _, hO, hK⟩
          rw [e3]
          match us, hres with
          | [u], hres =>
            refine ⟨by rw [he, packV, hres.1]; rfl, ⟨hK.os, hK.tape, hK.output, hK.size, fun b hb _ => ?_⟩⟩
            by_cases hbc : b ∈ cb
            · have hO' : OutsOk w'' ks vs o cb := by rw [← hout]; exact hO
              exact outs_same (capsOf_noM hcap) d1 d2 hO' b hbc
            · exact hK.block b hb (by rintro (h | h); exact hbc h; cases h)
        · cases h
      · cases h
    · cases h
  · cases h

theorem cmpOf_ok (hΓ : KnowOk P X Γ C) (R : Rel X st a w γ) {k : VK} {sv : SV} {D : k.ty → k.ty → Prop} {p : k.ty → k.ty → Int} {v : Value}
    (h : cmpOf Γ C k sv = some (D, p)) (hd : denV st.ids γ sv v) : CmpOk P k D p v := by
  unfold cmpOf at h
  split at h
  · rename_i id
    split at h
    · rename_i k' D' p' hl
      split at h
      · rename_i d q hc1 hc2
        cases h
        obtain ⟨e1, e2⟩ := castF2_eq hc1
        subst e1
        obtain ⟨_, e3⟩ := castF2_eq hc2
        obtain ⟨hi0', hcl⟩ := hΓ.clo _ _ hl
        have hi0 := hi0' rfl
        obtain ⟨hb1, hb2⟩ := R.base id hi0
        obtain ⟨_, hv⟩ := hd
        rw [hb2] at hv
        obtain ⟨f, hfn, hv2, hcall⟩ := hcl
        refine ⟨f, hfn, hv.trans hv2, fun w' x y rb' ht hxy => ?_⟩
        rw [e3]
        exact hcall w' x y rb' ht (by rw [e2] at hxy; exact hxy)
      · cases h
    · cases h
  · rename_i f
    split at h
    · rename_i f' eff hf
      split at h
      · rename_i d q hpk hc1 hc2
        cases h
        obtain ⟨e1, e2⟩ := castF2_eq hc1
        subst e1
        obtain ⟨_, e3⟩ := castF2_eq hc2
        obtain ⟨hm, hff⟩ := findSig_mem hf
        have hg := hΓ.sig _ hm
        have hfn := hΓ.fn _ hm
        simp only at hff hfn
        rw [hff] at hfn
        obtain ⟨vs, hv, hden⟩ := hd
        match vs, hden with
        | [], _ =>
          refine ⟨f, hfn, hv, fun w' x y rb' ht hxy => ?_⟩
          rw [e2] at hxy
          have hC := hg (x, y, ()) [valOf .rat x, valOf .rat y] w' rb' [] [] ⟨[], [], [], [], ⟨rfl, rfl, rfl⟩, ⟨[], [], [], [], ⟨rfl, rfl, rfl⟩, ⟨rfl, rfl⟩, rfl, rfl⟩, rfl, rfl⟩ ht (by simp) (by simp) hxy
          simp only [hff, packA_no hpk] at hC
          refine hC.mono ?_
          rintro e w'' ⟨us, l, he, hres, _, _, hO, hK⟩
          rw [e3]
          match us, hres with
          | [u], hres => exact ⟨by rw [he, packV, hres.1]; rfl, hK.mono (fun b _ hb => by simp at hb)⟩
      · cases h
    · cases h
  · cases h

/-- The objects that a call is handed to write, and those that it is handed to keep. -/
def cI : AK → SV → List Nat
  | .cell _ _, .sc (.ref id _) => [id]
  | .mrow _ _, .sc (.own id) => [id]
  | .mlift _ _, .ag [.own id] => [id]
  | _, _ => []
def oI : AK → SV → List Nat
  | .own _ _, .sc (.own id) => [id]
  | _, _ => []
def cIs : List AK → List SV → List Nat
  | k :: ks, v :: vs => cI k v ++ cIs ks vs
  | _, _ => []
def oIs : List AK → List SV → List Nat
  | k :: ks, v :: vs => oI k v ++ oIs ks vs
  | _, _ => []

theorem decV_ok {ids : Nat → Bool} {k : VK} {sv : SV} {x : k.ty} {v : Value} (h : decV k sv = some x) (hd : denV ids γ sv v) : v = valOf k x := by
  unfold decV at h
  unfold valOf
  split at h
  · rename_i cs hag
    obtain ⟨vs, hv, hc⟩ := hd
    have := dec_den h hc
    subst this
    rw [hv, hag]
    rfl
  · rename_i s hag
    have := dec_den h (vs := [v]) ⟨hd, trivial⟩
    rw [← this, hag]
    rfl
  · cases h

theorem argOf_ok (hΓ : KnowOk P X Γ C) (R : Rel X st a w γ) (hs : ∀ i o, hr i = some o → st.hp i = some o) {k : AK} {sv : SV} {x : k.ty} {v : Value}
    (h : argOf Γ C hr k sv = some x) (hd : denV st.ids γ sv v) {rb : List Nat} (hrc : ∀ b ∈ X.rc, b ∈ rb) (h1 : ∀ i ∈ rdIds hr [k] [sv], ∀ o b, st.hp i = some o → blk γ i = some b → b ∈ rb) :
    ∃ cb ob, ArgOk P w rb k x v cb ob ∧ cb = (cI k sv).filterMap (blk γ) ∧ ob = (oI k sv).filterMap (blk γ) ∧ (∀ i ∈ cI k sv ++ oI k sv, ∃ o, st.hp i = some o ∧ o.wr = true) := by
  cases k with
  | val k => exact ⟨[], [], ⟨decV_ok h hd, rfl, rfl⟩, by simp [cI], by simp [oI], by simp [cI, oI]⟩
  | list k =>
    refine ⟨[], [], ⟨listOf_ok R hs h hd fun i hi => h1 i ?_, rfl, rfl⟩, by simp [cI], by simp [oI], by simp [cI, oI]⟩
    simpa [rdIds] using hi
  | lift k =>
    cases sv with
    | ag cs =>
      match cs, h with
      | [s], h =>
        obtain ⟨vs, hv, hc⟩ := hd
        match vs, hc with
        | [u], hc =>
          refine ⟨[], [], ⟨⟨u, hv, listOf_ok R hs h (v := u) hc.1 fun i hi => h1 i ?_⟩, rfl, rfl⟩, by simp [cI], by simp [oI], by simp [cI, oI]⟩
          simpa [rdIds, idsSV] using hi
    | sc s => cases h
    | tp xs => cases h
  | cell t k =>
    simp only [argOf] at h
    split at h
    · rename_i t' cs hbox
      split at h
      · rename_i ht
        have ht := Nat.eq_of_beq_eq_true ht
        subst ht
        obtain ⟨id, b, ws, rfl, hhp, hga, hv, hheap, hden⟩ := boxOf_ok R hs hbox hd
        have hws := dec_den h hden
        refine ⟨[b], [], ⟨b, hv, by rw [← hws]; exact hheap, rfl, rfl⟩, by simp [cI, sub_blk hga], by simp [oI], ?_⟩
        · intro i hi
          simp [cI, oI] at hi
          subst hi
          exact ⟨_, hhp, rfl⟩
      · cases h
    · cases h
  | lcell t k =>
    simp only [argOf] at h
    split at h
    · rename_i t' s hbox
      split at h
      · rename_i ht
        have ht := Nat.eq_of_beq_eq_true ht
        subst ht
        obtain ⟨id, b, ws, ob0, rfl, hhp, hga, hv, hheap, hden⟩ := rboxOf_ok R hs hbox hd
        match ws, hden with
        | [u], hden =>
          have hmem : ∀ i ∈ idsSV (.sc s), i ∈ boxIds hr id := by
            intro i hi
            unfold rboxOf at hbox
            split at hbox
            · rename_i i0 heq
              cases heq
              split at hbox
              · rename_i heq2
                cases hbox
                simp only [boxIds, heq2]
                simpa [idsSV] using hi
              · rename_i heq2
                cases hbox
                simp only [boxIds, heq2]
                simpa [idsSV] using hi
              · cases hbox
            · cases hbox
          refine ⟨[], [], ⟨b, u, hv, hheap, h1 id (by simp [rdIds, idsSV, idsSc]) _ b hhp (sub_blk hga), listOf_ok R hs h (v := u) hden.1 fun i hi => h1 i ?_, rfl, rfl⟩, by simp [cI], by simp [oI], by simp [cI, oI]⟩
          simp only [rdIds, idsSV, idsSc, List.append_nil, List.mem_append, List.mem_flatMap, List.mem_singleton]
          exact .inr ⟨id, rfl, hmem i hi⟩
      · cases h
    · cases h
  | own e k =>
    simp only [argOf] at h
    split at h
    · cases h
      have hv : v = .slice none 0 0 := hd
      subst hv
      exact ⟨[], [], ⟨World.ownsRow_nil _ _ _ _, rfl, rfl⟩, by simp [cI], by simp [oI], by simp [cI, oI]⟩
    · rename_i id
      split at h
      · rename_i e' k' xs hy
        split at h
        · rename_i he
          have he := Nat.eq_of_beq_eq_true he
          subst he
          obtain ⟨hf, hl, hk⟩ := castL_flat h
          subst hk
          obtain ⟨_, hv⟩ := hd
          obtain ⟨hsz, hn, ho⟩ := R.ob _ _ (hs _ _ hy)
          rw [← hv, hf, hl] at ho
          refine ⟨[], v.ownBlock.toList, ⟨ho, rfl, rfl⟩, by simp [cI], ?_, ?_⟩
          · rw [hv]
            cases ha : (γ id).a <;> simp [oI, blk, ha, Value.ownBlock]
          · intro i hi
            simp [cI, oI] at hi
            subst hi
            exact ⟨_, hs _ _ hy, rfl⟩
        · cases h
      · cases h
    · cases h
  | mrow e k =>
    simp only [argOf] at h
    split at h
    · cases h
      have hv : v = .slice none 0 0 := hd
      subst hv
      exact ⟨[], [], ⟨World.ownsRow_nil _ _ _ _, rfl, rfl⟩, by simp [cI], by simp [oI], by simp [cI, oI]⟩
    · rename_i id
      split at h
      · rename_i e' k' xs hy
        split at h
        · rename_i he
          have he := Nat.eq_of_beq_eq_true he
          subst he
          obtain ⟨hf, hl, hk⟩ := castL_flat h
          subst hk
          obtain ⟨_, hv⟩ := hd
          obtain ⟨hsz, hn, ho⟩ := R.ob _ _ (hs _ _ hy)
          rw [← hv, hf, hl] at ho
          refine ⟨v.ownBlock.toList, [], ⟨ho, rfl, rfl⟩, ?_, by simp [oI], ?_⟩
          · rw [hv]
            cases ha : (γ id).a <;> simp [cI, blk, ha, Value.ownBlock]
          · intro i hi
            simp [cI, oI] at hi
            subst hi
            exact ⟨_, hs _ _ hy, rfl⟩
        · cases h
      · cases h
    · cases h
  | mlift e k =>
    simp only [argOf] at h
    split at h
    · cases h
      obtain ⟨us, hv0, hL⟩ := hd
      match us, hL with
      | [u], hL =>
        have hu : u = .slice none 0 0 := hL.1
        subst hu
        exact ⟨[], [], ⟨_, hv0, World.ownsRow_nil _ _ _ _, rfl, rfl⟩, by simp [cI], by simp [oI], by simp [cI, oI]⟩
    · rename_i id
      obtain ⟨us, hv0, hL⟩ := hd
      match us, hL with
      | [u], hL =>
        split at h
        · rename_i e' k' xs hy
          split at h
          · rename_i he
            have he := Nat.eq_of_beq_eq_true he
            subst he
            obtain ⟨hf, hl, hk⟩ := castL_flat h
            subst hk
            obtain ⟨_, hv⟩ := hL.1
            obtain ⟨hsz, hn, ho⟩ := R.ob _ _ (hs _ _ hy)
            rw [← hv, hf, hl] at ho
            refine ⟨u.ownBlock.toList, [], ⟨u, hv0, ho, rfl, rfl⟩, ?_, by simp [oI], ?_⟩
            · rw [hv]
              cases ha : (γ id).a <;> simp [cI, blk, ha, Value.ownBlock]
            · intro i hi
              simp [cI, oI] at hi
              subst hi
              exact ⟨_, hs _ _ hy, rfl⟩
          · cases h
        · cases h
    · cases h
  | clo k =>
    obtain ⟨D, p⟩ := x
    refine ⟨[], [], ⟨cloOf_ok hΓ R hs h hd hrc (fun i hi => h1 i ?_) (fun i hi => h1 i ?_), rfl, rfl⟩, by simp [cI], by simp [oI], by simp [cI, oI]⟩
    · simp only [rdIds, List.append_nil, List.mem_append]; exact .inl hi
    · simp only [rdIds, List.append_nil, List.mem_append]; exact .inr hi
  | cmp k =>
    obtain ⟨D, p⟩ := x
    exact ⟨[], [], ⟨cmpOf_ok hΓ R h hd, rfl, rfl⟩, by simp [cI], by simp [oI], by simp [cI, oI]⟩

def denVs (ids : Nat → Bool) (γ : Nat → Gh) : List SV → List Value → Prop
  | [], [] => True
  | s :: r, v :: t => denV ids γ s v ∧ denVs ids γ r t
  | _, _ => False

theorem denVs_take {ids : Nat → Bool} : ∀ {svs : List SV} {vs : List Value} (n : Nat), denVs ids γ svs vs → denVs ids γ (svs.take n) (vs.take n)
  | [], [], n, _ => by simp [denVs]
  | s :: r, v :: t, 0, h => by simp [denVs]
  | s :: r, v :: t, n + 1, h => ⟨h.1, denVs_take n h.2⟩
  | [], _ :: _, _, h => h.elim
  | _ :: _, [], _, h => h.elim
theorem denVs_drop {ids : Nat → Bool} : ∀ {svs : List SV} {vs : List Value} (n : Nat), denVs ids γ svs vs → denVs ids γ (svs.drop n) (vs.drop n)
  | [], [], n, _ => by simp [denVs]
  | s :: r, v :: t, 0, h => h
  | s :: r, v :: t, n + 1, h => denVs_drop n h.2
  | [], _ :: _, _, h => h.elim
  | _ :: _, [], _, h => h.elim
theorem denVs_append {ids : Nat → Bool} : ∀ {s : List SV} {v : List Value} {s' : List SV} {v' : List Value}, denVs ids γ s v → denVs ids γ s' v' → denVs ids γ (s ++ s') (v ++ v')
  | [], [], _, _, _, h => h
  | _ :: _, _ :: _, _, _, h, h' => ⟨h.1, denVs_append h.2 h'⟩
  | [], _ :: _, _, _, h, _ => h.elim
  | _ :: _, [], _, _, h, _ => h.elim
theorem denVs_caps {ids : Nat → Bool} : ∀ {c : List (Nat × Nat)} {v : List Value}, denCap ids γ c v → denVs ids γ (c.map fun p => .sc (.ref p.1 p.2)) v
  | [], [], _ => trivial
  | _ :: _, _ :: _, h => ⟨h.1, denVs_caps h.2⟩
  | [], _ :: _, h => h.elim
  | _ :: _, [], h => h.elim
theorem denCap_refs {ids : Nat → Bool} : ∀ {svs : List SV} {c : List (Nat × Nat)} {v : List Value}, refsOf svs = some c → denVs ids γ svs v → denCap ids γ c v
  | [], c, [], h, _ => by cases h; exact trivial
  | [], _, _ :: _, _, h => h.elim
  | .sc (.ref i o) :: r, c, u :: t, h, hd => by
    simp only [refsOf] at h
    split at h
    · rename_i l hl
      cases h
      exact ⟨hd.1, denCap_refs hl hd.2⟩
    · cases h
  | _ :: _, _, [], _, hd => hd.elim
  | .ag _ :: _, _, _ :: _, h, _ => by cases h
  | .tp _ :: _, _, _ :: _, h, _ => by cases h
  | .sc s :: _, _, _ :: _, h, hd => by
    cases s <;> first | (cases h; done) | skip
    simp only [refsOf] at h
    split at h
    · rename_i l hl
      cases h
      exact ⟨hd.1, denCap_refs hl hd.2⟩
    · cases h
theorem pack_den {ids : Nat → Bool} {f : Nat} {svs : List SV} {vs : List Value} (h : denVs ids γ svs vs) : denVs ids γ (packS f svs) (packA f vs) := by
  unfold packS packA
  cases hl : lookP f PACK with
  | none => exact h
  | some p =>
    obtain ⟨g, m⟩ := p
    dsimp only
    cases hc : refsOf (svs.drop m) with
    | some cs => exact denVs_append (denVs_take m h) (s' := [_]) (v' := [_]) ⟨⟨_, rfl, denCap_refs hc (denVs_drop m h)⟩, trivial⟩
    | none => exact denVs_append (denVs_take m h) (s' := [_]) (v' := [_]) ⟨trivial, trivial⟩
theorem denVs_len {ids : Nat → Bool} : ∀ {svs : List SV} {vs : List Value}, denVs ids γ svs vs → svs.length = vs.length
  | [], [], _ => rfl
  | _ :: _, _ :: _, h => by simp [denVs_len h.2]
  | [], _ :: _, h => h.elim
  | _ :: _, [], h => h.elim
theorem unp_den {ids : Nat → Bool} {f : Nat} {svs svs' : List SV} {vs : List Value} (hu : unpS f svs = some svs') (h : denVs ids γ svs vs) : ∃ vs', denVs ids γ svs' vs' ∧ packA f vs' = vs := by
  unfold unpS at hu
  unfold packA
  split at hu
  · rename_i e
    cases hu
    rw [e]
    exact ⟨vs, h, rfl⟩
  · rename_i g m e
    split at hu
    · rename_i g' cs hd
      split at hu
      · rename_i hg
        have hg := Nat.eq_of_beq_eq_true hg
        subst hg
        cases hu
        rw [e]
        have hd2 := denVs_drop m h
        rw [hd] at hd2
        match hv : vs.drop m, hd2 with
        | [u], hd2 =>
          obtain ⟨⟨ws, hw, hc⟩, _⟩ := hd2
          have hl : (vs.take m).length = m := by
            have h1 := congrArg List.length hv
            rw [List.length_drop, List.length_singleton] at h1
            rw [List.length_take]; omega
          refine ⟨vs.take m ++ ws, denVs_append (denVs_take m h) (denVs_caps hc), ?_⟩
          simp only
          rw [List.take_append_of_le_length (by omega), List.drop_append_of_le_length (by omega), List.take_of_length_le (by omega), List.drop_of_length_le (by omega), List.nil_append, ← hw, ← hv, List.take_append_drop]
      · cases hu
    · cases hu

theorem rdIds_cons (k : AK) (ks : List AK) (v : SV) (vs : List SV) : rdIds hr (k :: ks) (v :: vs) = rdIds hr [k] [v] ++ rdIds hr ks vs := by
  cases k <;> simp [rdIds]

theorem argsOf_ok (hΓ : KnowOk P X Γ C) (R : Rel X st a w γ) (hs : ∀ i o, hr i = some o → st.hp i = some o) {rb : List Nat} (hrc : ∀ b ∈ X.rc, b ∈ rb) : ∀ {ks : List AK} {svs : List SV} {x : AKs ks} {vs : List Value},
    argsOf Γ C hr ks svs = some x → denVs st.ids γ svs vs → (∀ i ∈ rdIds hr ks svs, ∀ o b, st.hp i = some o → blk γ i = some b → b ∈ rb) →
    ∃ cb ob, ArgsOk P w rb ks x vs cb ob ∧ cb = (cIs ks svs).filterMap (blk γ) ∧ ob = (oIs ks svs).filterMap (blk γ) ∧ (∀ i ∈ cIs ks svs ++ oIs ks svs, ∃ o, st.hp i = some o ∧ o.wr = true)
  | [], [], x, [], _, _, _ => ⟨[], [], ⟨rfl, rfl⟩, rfl, rfl, (fun _ h => by simp [cIs, oIs] at h)⟩
  | [], [], _, _ :: _, _, hd, _ => hd.elim
  | [], _ :: _, _, _, h, _, _ => by cases h
  | _ :: _, [], _, _, h, _, _ => by cases h
  | _ :: _, _ :: _, _, [], _, hd, _ => hd.elim
  | k :: ks, sv :: svs, z, v :: vs, h, hd, h1 => by
    simp only [argsOf] at h
    split at h
    · rename_i x y hx hy
      cases h
      rw [rdIds_cons] at h1
      obtain ⟨c1, o1, a1, a2, a3, a4⟩ := argOf_ok hΓ R hs hx hd.1 (rb := rb) hrc (fun i hi => h1 i (List.mem_append.2 (.inl hi)))
      obtain ⟨c2, o2, b1, b2, b3, b4⟩ := argsOf_ok hΓ R hs hrc hy hd.2 (fun i hi => h1 i (List.mem_append.2 (.inr hi)))
      refine ⟨c1 ++ c2, o1 ++ o2, ⟨c1, o1, c2, o2, a1, b1, rfl, rfl⟩, by simp [cIs, a2, b2], by simp [oIs, a3, b3], ?_⟩
      · intro i hi
        simp only [cIs, oIs, List.mem_append] at hi
        rcases hi with (hi | hi) | (hi | hi)
        · exact a4 i (List.mem_append.2 (.inl hi))
        · exact b4 i (List.mem_append.2 (.inl hi))
        · exact a4 i (List.mem_append.2 (.inr hi))
        · exact b4 i (List.mem_append.2 (.inr hi))
    · cases h

theorem raws_ok (hΓ : KnowOk P X Γ C) (R : Rel X st a w γ) {rb : List Nat} (hrc : ∀ b ∈ X.rc, b ∈ rb) : ∀ {ks : List AK} {x : AKs ks}, andL (rawPs C ks x) → RawsOk w rb ks x := by
  have one : ∀ {r : Raw}, RawIn C r → ListOk w rb (.num .u8) r.bs r.u := fun ⟨id, h⟩ => by
    have hl : ListOk X.w0 X.rc (.num .u8) _ _ := (hΓ.clo _ _ h).2
    obtain ⟨aa, c, hv, h1, h2, h3⟩ := hl.like (rb := X.rc) (w' := w) ⟨R.kept.size, fun b hb hlt => R.kept.block b hlt (hΓ.rc b hb).2⟩
    exact ⟨aa, c, hv, h1, h2, fun hp => by obtain ⟨ad, e1, e2, e3⟩ := h3 hp; exact ⟨ad, e1, hrc _ e2, e3⟩⟩
  intro ks
  induction ks with
  | nil =>
    intro x _
    exact hΓ.tab.to fun b hb hlt => ⟨hrc b hb, Nat.lt_of_lt_of_le hlt R.kept.size, R.kept.block b hlt (hΓ.rc b hb).2⟩
  | cons k ks ih =>
    intro x h
    obtain ⟨x, y⟩ := x
    cases k
    case val k => cases k <;> first | exact ⟨one h.1, ih h.2⟩ | exact ih (x := y) h
    case cell t k => cases k <;> first | exact ⟨one h.1, ih h.2⟩ | exact ih (x := y) h
    all_goals exact ih (x := y) h

end
end Go.Vx
