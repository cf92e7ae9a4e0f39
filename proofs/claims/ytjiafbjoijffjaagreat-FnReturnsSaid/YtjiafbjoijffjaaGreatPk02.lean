/- The relation between a symbolic state and a frame and a world; how a step keeps it. -/
import Derived.Test.YtjiafbjoijffjaaGreatPk01
import Derived.WalkKit
import Derived.Deep.Slices
namespace Go.Vx
set_option linter.unusedSimpArgs false
set_option linter.unusedVariables false
open Go Go.RowKit

/-- What a name stands for: an address; of a slice: its length, its capacity, the cells of an element. -/
structure Gh where
  a : Option Addr
  n : Nat
  c : Nat
  sz : Nat
  v : Value

def denCap (ids : Nat → Bool) (γ : Nat → Gh) : List (Nat × Nat) → List Value → Prop
  | [], [] => True
  | p :: r, u :: s => (ids p.1 = true ∧ ∃ ad, (γ p.1).a = some ad ∧ u = .pointer (some (ad.add p.2))) ∧ denCap ids γ r s
  | _, _ => False

def den (ids : Nat → Bool) (γ : Nat → Gh) : Sc → Value → Prop
  | .num k n, v => v = .int k n
  | .lit b, v => v = .bool b
  | .bool b, v => v = .bool b
  | .str s, v => v = .string s
  | .ref id off, v => ids id = true ∧ ∃ ad, (γ id).a = some ad ∧ v = .pointer (some (ad.add off))
  | .eref id i off, v => ids id = true ∧ ∃ ad, (γ id).a = some ad ∧ v = .pointer (some (ad.add (i * (γ id).sz + off)))
  | .vw id off len, v => ids id = true ∧ off + len ≤ (γ id).n ∧ ∃ a c, v = .slice a len c ∧ (len ≤ c ∧ (off = 0 → ∀ ad, (γ id).a = some ad → a = some ad ∧ c = (γ id).c)) ∧ (0 < len → ∃ ad, (γ id).a = some ad ∧ a = some (ad.add (off * (γ id).sz)) ∧ (off = 0 → c = (γ id).c))
  | .own id, v => ids id = true ∧ v = .slice (γ id).a (γ id).n (γ id).c
  | .nil, v => v = .slice none 0 0
  | .fn f cap, v => ∃ vs : List Value, v = .func (.func f) #[] vs.toArray ∧ denCap ids γ cap vs
  | .und, v => v = undef
  | .any, _ => True
  | .clo i, v => ids i = true ∧ v = (γ i).v
  | .raw r, v => v = r.u

def denL (ids : Nat → Bool) (γ : Nat → Gh) : List Sc → List Value → Prop
  | [], [] => True
  | s :: r, v :: t => den ids γ s v ∧ denL ids γ r t
  | _, _ => False

def vval (ag : Bool) (vs : List Value) : Value :=
  match ag, vs with
  | true, vs => .agg vs.toArray
  | false, [v] => v
  | _, _ => undef

def denT (ids : Nat → Bool) (γ : Nat → Gh) : List (Bool × List Sc) → List Value → Prop
  | [], [] => True
  | p :: r, u :: t => (∃ vs, u = vval p.1 vs ∧ denL ids γ p.2 vs) ∧ denT ids γ r t
  | _, _ => False

def denV (ids : Nat → Bool) (γ : Nat → Gh) : SV → Value → Prop
  | .sc s, v => den ids γ s v
  | .ag cs, v => ∃ vs : List Value, v = .agg vs.toArray ∧ denL ids γ cs vs
  | .tp xs, v => ∃ us : List Value, v = .tuple us.toArray ∧ denT ids γ xs us

/-! ### plain values -/

def valCells : (k : VK) → k.ty → List Value
  | .num k, n => [.int k n]
  | .bool, b => [.bool b]
  | .str, s => [.string s]
  | .rat, Rt.mk a b => [.int .i64 a, .int .i64 b]
  | .pt, Pt.mk (Rt.mk a b) (Rt.mk c d) => [.int .i64 a, .int .i64 b, .int .i64 c, .int .i64 d]
  | .iv, Iv.mk (Rt.mk a b) (Rt.mk c d) => [.int .i64 a, .int .i64 b, .int .i64 c, .int .i64 d]
  | .raw, r => [r.u]
  | .cur, Cur.mk r a s => [r.u, .int .i64 a, .int .u64 s]

def valOf (k : VK) (x : k.ty) : Value := vval k.isAg (valCells k x)

def flat (k : VK) (xs : List k.ty) : List Value := xs.flatMap (valCells k)

theorem sameK_eq {a b : IntKind} (h : sameK a b = true) : a = b := by cases a <;> cases b <;> first | rfl | cases h

theorem valCells_length (k : VK) (x : k.ty) : (valCells k x).length = k.size := by
  cases k <;> first | rfl | (obtain ⟨a, b⟩ := x; rfl) | (obtain ⟨a, b, c⟩ := x; rfl) | (obtain ⟨⟨a, b⟩, ⟨c, d⟩⟩ := x; rfl)

theorem size_pos (k : VK) : 0 < k.size := by cases k <;> simp [VK.size]

theorem valCells_one (k : VK) (x : k.ty) : ∀ u ∈ valCells k x, u.oneCell' = true := by
  cases k
  case raw =>
    obtain ⟨u0, bs, ⟨a, c, rfl⟩, _, _⟩ := x
    intro u hu
    simp [valCells] at hu
    subst hu
    rfl
  case cur =>
    obtain ⟨⟨u0, bs, ⟨a, c, rfl⟩, _, _⟩, b, d⟩ := x
    intro u hu
    simp [valCells] at hu
    rcases hu with rfl | rfl | rfl <;> rfl
  all_goals first
    | (intro u hu; simp [valCells] at hu; subst hu; rfl)
    | (obtain ⟨a, b⟩ := x; intro u hu; simp [valCells] at hu; rcases hu with rfl | rfl <;> rfl)
    | (obtain ⟨⟨a, b⟩, ⟨c, d⟩⟩ := x; intro u hu; simp [valCells] at hu; rcases hu with rfl | rfl | rfl | rfl <;> rfl)

theorem flat_length (k : VK) (xs : List k.ty) : (flat k xs).length = xs.length * k.size := by
  unfold flat
  induction xs with
  | nil => simp
  | cons x xs ih => simp only [List.flatMap_cons, List.length_append, ih, valCells_length, List.length_cons, Nat.add_mul, Nat.one_mul]; omega

theorem flat_append (k : VK) (xs ys : List k.ty) : flat k (xs ++ ys) = flat k xs ++ flat k ys := by simp [flat]

theorem flat_one (k : VK) (xs : List k.ty) : ∀ u ∈ flat k xs, u.oneCell' = true := by
  intro u hu
  simp only [flat, List.mem_flatMap] at hu
  obtain ⟨x, _, hx⟩ := hu
  exact valCells_one k x u hx

theorem flat_get (k : VK) (xs : List k.ty) (i j : Nat) (hi : i < xs.length) (hj : j < k.size) :
    (flat k xs)[i * k.size + j]? = (valCells k (xs.getD i k.dflt))[j]? := by
  induction xs generalizing i with
  | nil => simp at hi
  | cons x xs ih =>
    simp only [flat, List.flatMap_cons]
    have hx := valCells_length k x
    cases i with
    | zero =>
      rw [List.getElem?_append_left (by omega)]
      simp
    | succ i =>
      have he : (i + 1) * k.size + j = k.size + (i * k.size + j) := by rw [Nat.add_mul]; omega
      rw [he, List.getElem?_append_right (by omega), hx]
      have := ih i (by simpa using hi)
      simp only [flat] at this
      rw [show k.size + (i * k.size + j) - k.size = i * k.size + j by omega, this]
      simp

theorem flat_drop (k : VK) (xs : List k.ty) (n : Nat) : flat k (xs.drop n) = (flat k xs).drop (n * k.size) := by
  induction xs generalizing n with
  | nil => simp [flat]
  | cons x xs ih =>
    cases n with
    | zero => simp
    | succ n =>
      have hx := valCells_length k x
      simp only [List.drop_succ_cons, flat, List.flatMap_cons]
      have := ih n
      simp only [flat] at this
      rw [this, List.drop_append]
      rw [show (n + 1) * k.size - (valCells k x).length = n * k.size by rw [hx, Nat.add_mul]; omega]
      rw [List.drop_eq_nil_of_le (as := valCells k x) (by rw [hx, Nat.add_mul]; omega)]
      simp

theorem flat_take (k : VK) (xs : List k.ty) (n : Nat) : flat k (xs.take n) = (flat k xs).take (n * k.size) := by
  induction xs generalizing n with
  | nil => simp [flat]
  | cons x xs ih =>
    cases n with
    | zero => simp [flat]
    | succ n =>
      have hx := valCells_length k x
      simp only [List.take_succ_cons, flat, List.flatMap_cons]
      have := ih n
      simp only [flat] at this
      rw [this, List.take_append]
      rw [show (n + 1) * k.size - (valCells k x).length = n * k.size by rw [hx, Nat.add_mul]; omega]
      rw [List.take_of_length_le (l := valCells k x) (by rw [hx, Nat.add_mul]; omega)]

/-! ### encoding and decoding -/

theorem denL_enc {ids : Nat → Bool} {γ : Nat → Gh} (k : VK) (x : k.ty) : denL ids γ (k.enc x) (valCells k x) := by
  cases k <;> first
    | exact ⟨rfl, trivial⟩
    | (obtain ⟨a, b⟩ := x; exact ⟨rfl, rfl, trivial⟩)
    | (obtain ⟨a, b, c⟩ := x; exact ⟨rfl, rfl, rfl, trivial⟩)
    | (obtain ⟨⟨a, b⟩, ⟨c, d⟩⟩ := x; exact ⟨rfl, rfl, rfl, rfl, trivial⟩)

theorem enc_length (k : VK) (x : k.ty) : (k.enc x).length = k.size := by
  cases k <;> first | rfl | (obtain ⟨a, b⟩ := x; rfl) | (obtain ⟨a, b, c⟩ := x; rfl) | (obtain ⟨⟨a, b⟩, ⟨c, d⟩⟩ := x; rfl)

theorem denL_length {ids : Nat → Bool} {γ : Nat → Gh} : ∀ {cs : List Sc} {vs : List Value}, denL ids γ cs vs → cs.length = vs.length
  | [], [], _ => rfl
  | _ :: r, _ :: t, h => by simp [denL_length h.2]
  | [], _ :: _, h => h.elim
  | _ :: _, [], h => h.elim

theorem denL_take {ids : Nat → Bool} {γ : Nat → Gh} : ∀ {cs : List Sc} {vs : List Value} (n : Nat), denL ids γ cs vs → denL ids γ (cs.take n) (vs.take n)
  | [], [], n, _ => by simp [denL]
  | s :: r, v :: t, 0, h => by simp [denL]
  | s :: r, v :: t, n + 1, h => ⟨h.1, denL_take n h.2⟩
  | [], _ :: _, _, h => h.elim
  | _ :: _, [], _, h => h.elim

theorem denL_drop {ids : Nat → Bool} {γ : Nat → Gh} : ∀ {cs : List Sc} {vs : List Value} (n : Nat), denL ids γ cs vs → denL ids γ (cs.drop n) (vs.drop n)
  | [], [], n, _ => by simp [denL]
  | s :: r, v :: t, 0, h => h
  | s :: r, v :: t, n + 1, h => denL_drop n h.2
  | [], _ :: _, _, h => h.elim
  | _ :: _, [], _, h => h.elim

theorem denL_append {ids : Nat → Bool} {γ : Nat → Gh} : ∀ {cs : List Sc} {vs : List Value} {cs' : List Sc} {vs' : List Value}, denL ids γ cs vs → denL ids γ cs' vs' → denL ids γ (cs ++ cs') (vs ++ vs')
  | [], [], _, _, _, h' => h'
  | s :: r, v :: t, _, _, h, h' => ⟨h.1, denL_append h.2 h'⟩
  | [], _ :: _, _, _, h, _ => h.elim
  | _ :: _, [], _, _, h, _ => h.elim

theorem denL_get {ids : Nat → Bool} {γ : Nat → Gh} : ∀ {cs : List Sc} {vs : List Value} {j : Nat} {s : Sc}, denL ids γ cs vs → cs[j]? = some s → ∃ v, vs[j]? = some v ∧ den ids γ s v
  | [], [], j, s, _, hj => by simp at hj
  | s :: r, v :: t, 0, s', h, hj => by simp at hj; subst hj; exact ⟨v, rfl, h.1⟩
  | s :: r, v :: t, j + 1, s', h, hj => by
    simp only [List.getElem?_cons_succ] at hj ⊢
    exact denL_get h.2 hj
  | [], _ :: _, _, _, h, _ => h.elim
  | _ :: _, [], _, _, h, _ => h.elim

theorem dec_den {ids : Nat → Bool} {γ : Nat → Gh} {k : VK} {cs : List Sc} {vs : List Value} {x : k.ty} (h : k.dec cs = some x) (hd : denL ids γ cs vs) : vs = valCells k x := by
  cases k with
  | num k =>
    simp only [VK.dec] at h
    unfold decNum at h
    split at h
    · split at h
      · rename_i hs
        have := sameK_eq hs
        subst this
        cases h
        match vs, hd with
        | [v], hd => rw [hd.1]; rfl
      · cases h
    · cases h
  | bool =>
    simp only [VK.dec] at h
    unfold decBool at h
    split at h
    · cases h
      match vs, hd with
      | [v], hd => rw [hd.1]; rfl
    · cases h
      match vs, hd with
      | [v], hd => rw [hd.1]; rfl
    · cases h
  | str =>
    simp only [VK.dec] at h
    unfold decStr at h
    split at h
    · cases h
      match vs, hd with
      | [v], hd => rw [hd.1]; rfl
    · cases h
  | rat =>
    simp only [VK.dec] at h
    unfold decRat at h
    split at h
    · cases h
      match vs, hd with
      | [v, v'], hd => rw [hd.1, hd.2.1]; rfl
    · cases h
  | pt =>
    simp only [VK.dec] at h
    unfold decPt at h
    split at h
    · cases h
      match vs, hd with
      | [v, v', v2, v3], hd => rw [hd.1, hd.2.1, hd.2.2.1, hd.2.2.2.1]; rfl
    · cases h
  | iv =>
    simp only [VK.dec] at h
    unfold decIv at h
    split at h
    · cases h
      match vs, hd with
      | [v, v', v2, v3], hd => rw [hd.1, hd.2.1, hd.2.2.1, hd.2.2.2.1]; rfl
    · cases h
  | raw =>
    simp only [VK.dec] at h
    unfold decRaw at h
    split at h
    · cases h
      match vs, hd with
      | [v], hd => rw [hd.1]; rfl
    · cases h
  | cur =>
    simp only [VK.dec] at h
    unfold decCur at h
    split at h
    · cases h
      match vs, hd with
      | [v, v', v2], hd => rw [hd.1, hd.2.1, hd.2.2.1]; rfl
    · cases h

theorem castL_flat {k k' : VK} {xs : List k.ty} {ys : List k'.ty} (h : VK.castL k k' xs = some ys) : flat k xs = flat k' ys ∧ xs.length = ys.length ∧ k = k' := by
  cases k <;> cases k' <;> simp only [VK.castL] at h <;> first
    | (cases h; exact ⟨rfl, rfl, rfl⟩)
    | (cases h; done)
    | (split at h
       · rename_i hs
         have := sameK_eq hs
         subst this
         cases h
         exact ⟨rfl, rfl, rfl⟩
       · cases h)

/-! ### from one naming to a larger one -/

structure Wider (ids ids' : Nat → Bool) (γ γ' : Nat → Gh) : Prop where
  sub : ∀ i, ids i = true → ids' i = true
  gh : ∀ i, ids i = true → γ' i = γ i

section
variable {ids ids' : Nat → Bool} {γ γ' : Nat → Gh}

theorem Wider.refl (ids : Nat → Bool) (γ : Nat → Gh) : Wider ids ids γ γ := ⟨fun _ h => h, fun _ _ => rfl⟩

theorem denCap_wider (h : Wider ids ids' γ γ') : ∀ {c : List (Nat × Nat)} {vs : List Value}, denCap ids γ c vs → denCap ids' γ' c vs
  | [], [], _ => trivial
  | p :: r, u :: s, ⟨⟨hi, ad, ha, hu⟩, hr⟩ => ⟨⟨h.sub _ hi, ad, by rw [h.gh _ hi]; exact ha, hu⟩, denCap_wider h hr⟩
  | [], _ :: _, hd => hd.elim
  | _ :: _, [], hd => hd.elim

theorem den_wider (h : Wider ids ids' γ γ') {s : Sc} {v : Value} (hd : den ids γ s v) : den ids' γ' s v := by
  cases s with
  | ref i o => exact ⟨h.sub _ hd.1, by rw [h.gh _ hd.1]; exact hd.2⟩
  | eref i j o => exact ⟨h.sub _ hd.1, by rw [h.gh _ hd.1]; exact hd.2⟩
  | vw i o l => exact ⟨h.sub _ hd.1, by rw [h.gh _ hd.1]; exact hd.2⟩
  | own i => exact ⟨h.sub _ hd.1, by rw [h.gh _ hd.1]; exact hd.2⟩
  | clo i => exact ⟨h.sub _ hd.1, by rw [h.gh _ hd.1]; exact hd.2⟩
  | fn f c => obtain ⟨vs, hv, hc⟩ := hd; exact ⟨vs, hv, denCap_wider h hc⟩
  | _ => exact hd

theorem denL_wider (h : Wider ids ids' γ γ') : ∀ {cs : List Sc} {vs : List Value}, denL ids γ cs vs → denL ids' γ' cs vs
  | [], [], _ => trivial
  | _ :: _, _ :: _, hd => ⟨den_wider h hd.1, denL_wider h hd.2⟩
  | [], _ :: _, hd => hd.elim
  | _ :: _, [], hd => hd.elim

theorem denT_wider (h : Wider ids ids' γ γ') : ∀ {xs : List (Bool × List Sc)} {vs : List Value}, denT ids γ xs vs → denT ids' γ' xs vs
  | [], [], _ => trivial
  | _ :: _, _ :: _, ⟨⟨vs, hu, hd⟩, hr⟩ => ⟨⟨vs, hu, denL_wider h hd⟩, denT_wider h hr⟩
  | [], _ :: _, hd => hd.elim
  | _ :: _, [], hd => hd.elim

theorem denV_wider (h : Wider ids ids' γ γ') {x : SV} {v : Value} (hd : denV ids γ x v) : denV ids' γ' x v := by
  cases x with
  | sc s => exact den_wider h hd
  | ag cs => obtain ⟨vs, hv, hc⟩ := hd; exact ⟨vs, hv, denL_wider h hc⟩
  | tp xs => obtain ⟨vs, hv, hc⟩ := hd; exact ⟨vs, hv, denT_wider h hc⟩
end

/-! ### objects -/

def Ob.wr : Ob → Bool
  | .view _ _ => false
  | .rbox _ _ => false
  | _ => true

def ObOk (ids : Nat → Bool) (γ : Nat → Gh) (w : World) (id : Nat) : Ob → Prop
  | .box t cs => ∃ b vs, (γ id).a = some ⟨b, 0, none⟩ ∧ w.heap[b]? = some (.cells (List.toArray vs) t (0, 0)) ∧ denL ids γ cs vs
  | .row e k xs => (γ id).sz = k.size ∧ (γ id).n = xs.length ∧ w.ownsRow 0 e k.size (.slice (γ id).a (γ id).n (γ id).c) xs.length (flat k xs)
  | .view k xs => (γ id).sz = k.size ∧ (γ id).n = xs.length ∧ xs.length ≤ maxLen ∧ (∀ ad, (γ id).a = some ad → ad.block < w.heap.size) ∧
      (0 < xs.length → ∃ ad, (γ id).a = some ad ∧ ∀ j u, (flat k xs)[j]? = some u → w.cell? (ad.add j) = some u)
  | .rbox t cs => ∃ b vs, (γ id).a = some ⟨b, 0, none⟩ ∧ w.heap[b]? = some (.cells (List.toArray vs) t (0, 0)) ∧ denL ids γ cs vs
  | .part k xs => (γ id).sz = k.size ∧ (γ id).n = xs.length ∧ xs.length ≤ maxLen ∧ (∀ ad, (γ id).a = some ad → ad.block < w.heap.size) ∧
      (0 < xs.length → ∃ ad, (γ id).a = some ad ∧ ∀ j u, (flat k xs)[j]? = some u → w.cell? (ad.add j) = some u)

def blk (γ : Nat → Gh) (id : Nat) : Option Nat := (γ id).a.map (·.block)

/-- The world is as it was but for blocks of S, and for what is new. -/
structure Kept (S : Nat → Prop) (w w' : World) : Prop where
  os : w'.os = w.os
  tape : w'.tape = w.tape
  output : w'.output = w.output
  size : w.heap.size ≤ w'.heap.size
  block : ∀ k, k < w.heap.size → ¬ S k → w'.heap[k]? = w.heap[k]?

theorem Kept.refl (S : Nat → Prop) (w : World) : Kept S w w := ⟨rfl, rfl, rfl, Nat.le_refl _, fun _ _ _ => rfl⟩
theorem Kept.mono {S S' : Nat → Prop} {w w' : World} (h : Kept S w w') (hs : ∀ k, k < w.heap.size → S k → S' k) : Kept S' w w' :=
  ⟨h.os, h.tape, h.output, h.size, fun k hk hn => h.block k hk fun hS => hn (hs k hk hS)⟩
theorem Kept.alloc (S : Nat → Prop) (w : World) (o : Obj) : Kept S w (w.alloc o) := ⟨rfl, rfl, rfl, by simp, fun k hk _ => Below.heap_alloc w o k hk⟩
theorem Kept.trans {S S' : Nat → Prop} {a b c : World} (h : Kept S a b) (h' : Kept S' b c) : Kept (fun k => S k ∨ S' k) a c :=
  ⟨h'.os.trans h.os, h'.tape.trans h.tape, h'.output.trans h.output, Nat.le_trans h.size h'.size,
    fun k hk hn => (h'.block k (Nat.lt_of_lt_of_le hk h.size) fun hS => hn (.inr hS)).trans (h.block k hk fun hS => hn (.inl hS))⟩
theorem Kept.below {w w' : World} (h : Kept (fun _ => False) w w') : Below w.heap.size w w' := ⟨h.os, h.tape, h.output, h.size, fun k hk => h.block k hk fun h => h⟩
theorem Kept.of_below {w w' : World} (h : Below w.heap.size w w') (S : Nat → Prop) : Kept S w w' := ⟨h.os, h.tape, h.output, h.size, fun k hk _ => h.block k hk⟩
theorem Kept.of_grown {w w' : World} {row : Option Nat} (h : w.grownBy w' row) : Kept (fun k => some k = row) w w' :=
  ⟨h.os, h.tape, h.output, h.size, fun k hk hn => h.block k hk hn⟩

theorem ObOk.blk_lt {ids : Nat → Bool} {γ : Nat → Gh} {w : World} {id : Nat} {o : Ob} (h : ObOk ids γ w id o) {b : Nat} (hb : blk γ id = some b) : b < w.heap.size := by
  unfold blk at hb
  cases o with
  | box t cs =>
    obtain ⟨b', vs, ha, hh, _⟩ := h
    rw [ha] at hb
    simp at hb
    subst hb
    exact (Array.getElem?_eq_some_iff.1 hh).1
  | row e k xs =>
    obtain ⟨_, _, ho⟩ := h
    cases ha : (γ id).a with
    | none => rw [ha] at hb; cases hb
    | some ad =>
      rw [ha] at hb ho
      simp at hb
      exact (ho.lt b (by simp [Value.ownBlock, hb])).2
  | view k xs =>
    obtain ⟨_, _, _, hl, _⟩ := h
    cases ha : (γ id).a with
    | none => rw [ha] at hb; cases hb
    | some ad =>
      rw [ha] at hb
      simp at hb
      subst hb
      exact hl ad ha
  | part k xs =>
    obtain ⟨_, _, _, hl, _⟩ := h
    cases ha : (γ id).a with
    | none => rw [ha] at hb; cases hb
    | some ad =>
      rw [ha] at hb
      simp at hb
      subst hb
      exact hl ad ha
  | rbox t cs =>
    obtain ⟨b', vs, ha, hh, _⟩ := h
    rw [ha] at hb
    simp at hb
    subst hb
    exact (Array.getElem?_eq_some_iff.1 hh).1

/-- An object whose block has not been written is as it was, by wider names. -/
theorem ObOk.keep {ids ids' : Nat → Bool} {γ γ' : Nat → Gh} {w w' : World} {id : Nat} {o : Ob} (h : ObOk ids γ w id o) (hw : Wider ids ids' γ γ') (hid : ids id = true)
    (hs : w.heap.size ≤ w'.heap.size) (hk : ∀ b, blk γ id = some b → w'.heap[b]? = w.heap[b]?) : ObOk ids' γ' w' id o := by
  have hg := hw.gh id hid
  cases o with
  | box t cs =>
    obtain ⟨b, vs, ha, hh, hd⟩ := h
    exact ⟨b, vs, by rw [hg]; exact ha, (hk b (by simp [blk, ha])).trans hh, denL_wider hw hd⟩
  | row e k xs =>
    obtain ⟨h1, h2, ho⟩ := h
    refine ⟨by rw [hg]; exact h1, by rw [hg]; exact h2, ?_⟩
    rw [hg]
    refine ⟨ho.1, ?_⟩
    rcases ho.2 with hn | ⟨g, cap, cur, hv, hb, hh, r⟩
    · exact .inl hn
    · refine .inr ⟨g, cap, cur, hv, hb, ?_, r⟩
      refine (hk g ?_).trans hh
      injection hv with ha
      simp [blk, ha]
  | view k xs =>
    obtain ⟨h1, h0, h2, h3, h4⟩ := h
    refine ⟨by rw [hg]; exact h1, by rw [hg]; exact h0, h2, fun ad ha => Nat.lt_of_lt_of_le (h3 ad (by rw [← hg]; exact ha)) hs, fun hx => ?_⟩
    obtain ⟨ad, ha, hc⟩ := h4 hx
    exact ⟨ad, by rw [hg]; exact ha, fun j u hu => by
      have hb : (ad.add j).block = ad.block := by unfold Addr.add; split <;> rfl
      rw [World.cell?_of_block (w := w) (a := ad.add j) (by rw [hb]; exact hk _ (by simp [blk, ha]))]
      exact hc j u hu⟩
  | part k xs =>
    obtain ⟨h1, h0, h2, h3, h4⟩ := h
    refine ⟨by rw [hg]; exact h1, by rw [hg]; exact h0, h2, fun ad ha => Nat.lt_of_lt_of_le (h3 ad (by rw [← hg]; exact ha)) hs, fun hx => ?_⟩
    obtain ⟨ad, ha, hc⟩ := h4 hx
    exact ⟨ad, by rw [hg]; exact ha, fun j u hu => by
      have hb : (ad.add j).block = ad.block := by unfold Addr.add; split <;> rfl
      rw [World.cell?_of_block (w := w) (a := ad.add j) (by rw [hb]; exact hk _ (by simp [blk, ha]))]
      exact hc j u hu⟩
  | rbox t cs =>
    obtain ⟨b, vs, ha, hh, hd⟩ := h
    exact ⟨b, vs, by rw [hg]; exact ha, (hk b (by simp [blk, ha])).trans hh, denL_wider hw hd⟩

end Go.Vx
namespace Go.Vx
set_option linter.unusedSimpArgs false
set_option linter.unusedVariables false
open Go Go.RowKit

structure Cx where
  w0 : World
  Wr : Nat → Prop
  n : Nat
  i0 : Nat → Bool
  g0 : Nat → Gh
  rc : List Nat

structure Rel (X : Cx) (st : St) (a : Act) (w : World) (γ : Nat → Gh) : Prop where
  fr : ∀ j, denV st.ids γ (st.fr j) (a.tmps.getD j undef)
  sz : X.n ≤ a.tmps.size
  df : a.defers = []
  ob : ∀ i o, st.hp i = some o → ObOk st.ids γ w i o
  id : ∀ i o, st.hp i = some o → st.ids i = true
  sep : ∀ i j o p b, st.hp i = some o → st.hp j = some p → blk γ i = some b → blk γ j = some b → i = j ∨ (o.wr = false ∧ p.wr = false)
  lo : ∀ i o b, st.hp i = some o → o.wr = true → blk γ i = some b → X.w0.heap.size ≤ b ∨ X.Wr b
  kept : Kept X.Wr X.w0 w
  base : ∀ i, X.i0 i = true → st.ids i = true ∧ γ i = X.g0 i

theorem upd_same {α : Type} (f : Nat → α) (k : Nat) (v : α) : upd f k v k = v := by simp [upd]
theorem upd_ne {α : Type} (f : Nat → α) {k j : Nat} (v : α) (h : j ≠ k) : upd f k v j = f j := by
  have : Nat.beq j k = false := by cases e : Nat.beq j k <;> simp_all
  simp [upd, this]

theorem elemB_true {j : Nat} : ∀ {l : List Nat}, elemB j l = true ↔ j ∈ l
  | [] => by simp [elemB]
  | i :: r => by
    unfold elemB
    cases e : Nat.beq j i
    · have : j ≠ i := by intro h; subst h; simp at e
      simp [elemB_true (l := r), this]
    · have : j = i := Nat.eq_of_beq_eq_true e
      simp [this]
theorem elemB_false {j : Nat} {l : List Nat} : elemB j l = false ↔ j ∉ l := by
  rw [← elemB_true]; cases elemB j l <;> simp

theorem subB_true : ∀ {l m : List Nat}, subB l m = true → ∀ i ∈ l, i ∈ m
  | [], _, _, _, h => by cases h
  | i :: r, m, h, j, hj => by
    unfold subB at h
    split at h
    · rename_i e
      rcases List.mem_cons.1 hj with rfl | hj
      · exact elemB_true.1 e
      · exact subB_true h j hj
    · cases h

theorem disjB_true : ∀ {l m : List Nat}, disjB l m = true → ∀ i ∈ l, i ∉ m
  | [], _, _, _, h => by cases h
  | i :: r, m, h, j, hj => by
    unfold disjB at h
    split at h
    · cases h
    · rename_i e
      rcases List.mem_cons.1 hj with rfl | hj
      · exact elemB_false.1 e
      · exact disjB_true h j hj

theorem distB_true : ∀ {l : List Nat}, distB l = true → l.Nodup
  | [], _ => List.nodup_nil
  | i :: r, h => by
    unfold distB at h
    split at h
    · cases h
    · rename_i e
      exact List.nodup_cons.2 ⟨elemB_false.1 e, distB_true h⟩

theorem updAll_off : ∀ {us : List Up} {h : Nat → Option Ob} {i : Nat}, i ∉ us.map (·.id) → updAll h us i = h i
  | [], _, _, _ => rfl
  | u :: r, h, i, hn => by
    simp only [List.map_cons, List.mem_cons, not_or] at hn
    simp only [updAll]
    rw [updAll_off hn.2, upd_ne _ _ hn.1]

theorem updAll_on : ∀ {us : List Up} {h : Nat → Option Ob} {u : Up}, (us.map (·.id)).Nodup → u ∈ us → updAll h us u.id = u.ob
  | [], _, _, _, hm => by cases hm
  | v :: r, h, u, hn, hm => by
    simp only [List.map_cons, List.nodup_cons] at hn
    simp only [updAll]
    rcases List.mem_cons.1 hm with rfl | hm
    · rw [updAll_off hn.1, upd_same]
    · exact updAll_on hn.2 hm

theorem updI_true : ∀ {us : List Up} {f : Nat → Bool} {i : Nat}, updI f us i = true ↔ (f i = true ∨ i ∈ us.map (·.id))
  | [], _, _ => by simp [updI]
  | u :: r, f, i => by
    simp only [updI, List.map_cons, List.mem_cons]
    rw [updI_true]
    by_cases h : i = u.id
    · subst h; simp [upd_same]
    · rw [upd_ne _ _ h]; simp [h]

theorem okUps_spec : ∀ {us : List Up} {ids : Nat → Bool}, okUps ids us = true → (us.map (·.id)).Nodup → ∀ u ∈ us, (u.new = true → ids u.id = false) ∧ (u.new = false → ids u.id = true)
  | [], _, _, _, _, hm => by cases hm
  | v :: r, ids, h, hn, u, hm => by
    unfold okUps at h
    simp only [List.map_cons, List.nodup_cons] at hn
    split at h
    · rename_i e1 e2
      rcases List.mem_cons.1 hm with rfl | hm
      · simp [e1, e2]
      · exact okUps_spec h hn.2 u hm
    · rename_i e1 e2
      rcases List.mem_cons.1 hm with rfl | hm
      · simp [e1, e2]
      · have := okUps_spec h hn.2 u hm
        have hne : u.id ≠ v.id := fun e => hn.1 (by rw [← e]; exact List.mem_map_of_mem hm)
        rw [upd_ne _ _ hne] at this
        exact this
    · cases h

/-- What one operation does. -/
structure StepOk (st : St) (w : World) (γ : Nat → Gh) (v : SV) (us : List Up) (v' : Value) (w' : World) (γ' : Nat → Gh) : Prop where
  val : denV (updI st.ids us) γ' v v'
  gh : ∀ i, st.ids i = true → γ' i = γ i
  kept : Kept (fun b => ∃ u ∈ us, blk γ u.id = some b ∧ ∃ o, st.hp u.id = some o ∧ o.wr = true) w w'
  obs : ∀ u ∈ us, ∀ o, u.ob = some o → ObOk (updI st.ids us) γ' w' u.id o ∧ o.wr = true
  blks : ∀ u ∈ us, ∀ o b, u.ob = some o → blk γ' u.id = some b → w.heap.size ≤ b ∨ ∃ u2 ∈ us, blk γ u2.id = some b ∧ ∃ p, st.hp u2.id = some p ∧ p.wr = true
  sep : ∀ u ∈ us, ∀ u2 ∈ us, ∀ o p b, u.ob = some o → u2.ob = some p → blk γ' u.id = some b → blk γ' u2.id = some b → u.id = u2.id

/-- A step that writes nothing and makes nothing. -/
theorem StepOk.pure {st : St} {w : World} {γ : Nat → Gh} {v : SV} {v' : Value} (h : denV st.ids γ v v') : StepOk st w γ v [] v' w γ :=
  ⟨h, fun _ _ => rfl, Kept.refl _ _, (fun _ h => by cases h), (fun _ h => by cases h), (fun _ h => by cases h)⟩

theorem put_tmps_get (a : Act) (d : Nat) (v : Value) (j : Nat) (hd : d < a.tmps.size) : (a.put (some d) v).tmps.getD j undef = if j = d then v else a.tmps.getD j undef := by
  simp only [Act.put, Array.getD_eq_getD_getElem?, Array.getElem?_setIfInBounds]
  by_cases h : d = j
  · subst h; simp [hd]
  · simp [h, Ne.symm h]

theorem putU_eq (fr : Nat → SV) : ∀ (us : List Up) (hp : Nat → Option Ob) (ids : Nat → Bool) (K : St → Prop), putU fr hp ids us K = K ⟨fr, updAll hp us, updI ids us⟩
  | [], _, _, _ => rfl
  | u :: r, hp, ids, K => by
    obtain ⟨i, b, o⟩ := u
    rw [putU_cons]
    simp only [updAll, updI]
    exact putU_eq fr r _ _ K

theorem putK_eq (st : St) (d : Option Nat) (v : SV) (us : List Up) (K : St → Prop) : putK st d v us K = K (st.put d v us) := by
  obtain ⟨fr, hp, ids⟩ := st
  cases d <;> simp only [putK, putU_eq, St.put]

theorem put_ids (st : St) (d : Option Nat) (v : SV) (us : List Up) : (st.put d v us).ids = updI st.ids us := by cases d <;> rfl
theorem put_hp (st : St) (d : Option Nat) (v : SV) (us : List Up) : (st.put d v us).hp = updAll st.hp us := by cases d <;> rfl

theorem Rel.put {X : Cx} {st : St} {a : Act} {w : World} {γ : Nat → Gh} {d : Option Nat} {v : SV} {us : List Up} {v' : Value} {w' : World} {γ' : Nat → Gh}
    (h : Rel X st a w γ) (hs : StepOk st w γ v us v' w' γ') (hok : okUps st.ids us = true) (hn : (us.map (·.id)).Nodup) (hd : dstOk X.n d = true) :
    Rel X (st.put d v us) (a.put d v') w' γ' := by
  have hold := okUps_spec hok hn
  have hW : Wider st.ids (updI st.ids us) γ γ' := ⟨fun i hi => updI_true.2 (.inl hi), hs.gh⟩
  -- an object that is not touched keeps its block
  have far : ∀ i o b, i ∉ us.map (·.id) → st.hp i = some o → blk γ i = some b → w'.heap[b]? = w.heap[b]? := fun i o b hi ho hb =>
    hs.kept.block b ((h.ob i o ho).blk_lt hb) fun ⟨u, hu, hub, p, hp, hpw⟩ => by
      rcases h.sep i u.id o p b ho hp hb hub with e | ⟨_, e⟩
      · exact hi (by rw [e]; exact List.mem_map_of_mem hu)
      · rw [hpw] at e; cases e
  have blk' : ∀ i, st.ids i = true → blk γ' i = blk γ i := fun i hi => by unfold blk; rw [hs.gh i hi]
  constructor
  · rw [put_ids]
    intro j
    cases d with
    | none => exact denV_wider hW (h.fr j)
    | some d =>
      have hlt : d < X.n := by
        have : d + 1 ≤ X.n := Nat.le_of_ble_eq_true hd
        omega
      rw [put_tmps_get a d v' j (Nat.lt_of_lt_of_le hlt h.sz)]
      simp only [St.put]
      by_cases hj : j = d
      · rw [if_pos hj, hj, upd_same]; exact hs.val
      · rw [if_neg hj, upd_ne _ _ hj]; exact denV_wider hW (h.fr j)
  · cases d with
    | none => exact h.sz
    | some d => simpa [Act.put] using h.sz
  · cases d <;> exact h.df
  · rw [put_ids, put_hp]
    intro i o ho
    by_cases hi : i ∈ us.map (·.id)
    · obtain ⟨u, hu, rfl⟩ := List.mem_map.1 hi
      rw [updAll_on hn hu] at ho
      exact (hs.obs u hu o ho).1
    · rw [updAll_off hi] at ho
      exact (h.ob i o ho).keep hW (h.id i o ho) hs.kept.size fun b hb => far i o b hi ho hb
  · rw [put_ids, put_hp]
    intro i o ho
    by_cases hi : i ∈ us.map (·.id)
    · exact updI_true.2 (.inr hi)
    · rw [updAll_off hi] at ho
      exact updI_true.2 (.inl (h.id i o ho))
  · rw [put_hp]
    -- a touched object and one that is not
    have mixed : ∀ (u : Up), u ∈ us → ∀ o j p b, u.ob = some o → j ∉ us.map (·.id) → st.hp j = some p → blk γ' u.id = some b → blk γ' j = some b → False := by
      intro u hu o j p b ho hj hp hb1 hb2
      rw [blk' j (h.id j p hp)] at hb2
      rcases hs.blks u hu o b ho hb1 with hlt | ⟨u2, hu2, hub, q, hq, hqw⟩
      · have := (h.ob j p hp).blk_lt hb2
        omega
      · rcases h.sep j u2.id p q b hp hq hb2 hub with e | ⟨_, e⟩
        · exact hj (by rw [e]; exact List.mem_map_of_mem hu2)
        · rw [hqw] at e; cases e
    intro i j o p b ho hp hb1 hb2
    by_cases hi : i ∈ us.map (·.id)
    · obtain ⟨u, hu, rfl⟩ := List.mem_map.1 hi
      rw [updAll_on hn hu] at ho
      by_cases hj : j ∈ us.map (·.id)
      · obtain ⟨u2, hu2, rfl⟩ := List.mem_map.1 hj
        rw [updAll_on hn hu2] at hp
        exact .inl (hs.sep u hu u2 hu2 o p b ho hp hb1 hb2)
      · rw [updAll_off hj] at hp
        exact (mixed u hu o j p b ho hj hp hb1 hb2).elim
    · rw [updAll_off hi] at ho
      by_cases hj : j ∈ us.map (·.id)
      · obtain ⟨u2, hu2, rfl⟩ := List.mem_map.1 hj
        rw [updAll_on hn hu2] at hp
        exact (mixed u2 hu2 p i o b hp hi ho hb2 hb1).elim
      · rw [updAll_off hj] at hp
        rw [blk' i (h.id i o ho)] at hb1
        rw [blk' j (h.id j p hp)] at hb2
        exact h.sep i j o p b ho hp hb1 hb2
  · rw [put_hp]
    intro i o b ho hw hb
    by_cases hi : i ∈ us.map (·.id)
    · obtain ⟨u, hu, rfl⟩ := List.mem_map.1 hi
      rw [updAll_on hn hu] at ho
      rcases hs.blks u hu o b ho hb with hlt | ⟨u2, hu2, hub, q, hq, hqw⟩
      · exact .inl (Nat.le_trans h.kept.size hlt)
      · exact h.lo u2.id q b hq hqw hub
    · rw [updAll_off hi] at ho
      rw [blk' i (h.id i o ho)] at hb
      exact h.lo i o b ho hw hb
  · have hk := h.kept.trans hs.kept
    refine ⟨hk.os, hk.tape, hk.output, hk.size, fun k hk0 hn => ?_⟩
    refine hk.block k hk0 ?_
    rintro (hw | ⟨u, hu, hub, p, hp, hpw⟩)
    · exact hn hw
    · rcases h.lo u.id p k hp hpw hub with hlt | hw
      · omega
      · exact hn hw
  · intro i hi
    obtain ⟨h1, h2⟩ := h.base i hi
    rw [put_ids]
    exact ⟨updI_true.2 (.inl h1), (hs.gh i h1).trans h2⟩

end Go.Vx
