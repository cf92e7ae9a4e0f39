/- Piecewise linear values in exact fractions: plain laws. -/
import Derived.Test.YtjiafbjoijffjaaGreatPk19
import Derived.Test.YtjiafbjoijffjaaGreatPk20
import Derived.WalkKit
import Derived.BigCall
import Derived.BigQuiet
import Derived.Deep.LoopGhost
import Derived.Deep.RegionWith
import Derived.Lib.OthersKept
namespace Go.Vx
open Go Go.Proofs Go.RowKit
set_option maxRecDepth 100000
set_option linter.unusedSimpArgs false
set_option linter.unusedVariables false

noncomputable def s_spec_imSlopes : Sig := ⟨255, [.list .pt], [.list 26 .rat], fun ((f : List Pt), _) => ⟨[2 ≤ f.length, f.length ≤ 1000, rsOk f], (slL f (f.length - 1), ()), ()⟩⟩
theorem ok_spec_imSlopes : GSpec Tryz.prog s_spec_imSlopes := by
  refine fn_known tab_ok fol (Known.nil.cons ok_spec_imSlope (by kernel_rfl)) (by decide) Tryz.func255 ?_
  rintro ⟨(f : List Pt), ⟨⟩⟩ ⟨hl, _⟩ ⟨l1, l2, h1, _⟩
  have l1 : 2 ≤ f.length := l1
  have l2 : f.length ≤ 1000 := l2
  refine ⟨Nat, fun i => ⟨[(3, .sc (.own 7777777)), (4, .sc (.num .i64 ((i : Int) + 1)))], [100000], [(7777777, .row 26 .rat (slL f i))]⟩, fun i => i + 1 ≤ f.length, fun i => f.length - i, ⟨0, by omega, ?_⟩, ?_⟩
  · repeat' (first | apply And.intro | exact True.intro | exact Lf.mk (by with_reducible rfl) | apply Lf.mk)
    all_goals first | rfl | simp
  · intro i g1
    have hm := slL_length f i
    repeat' (first | with_reducible apply andAll_cons | with_reducible apply andAll_nil | (with_reducible apply Cf.mk; kernel_rfl) | apply And.intro | intro _ | exact True.intro | apply Lf.mk)
    all_goals simp only [hm] at *
    all_goals (try simp only [Bool.not_eq_true', Bool.not_eq_false', Bool.not_not, decide_eq_true_eq, decide_eq_false_iff_not, beq_iff_eq, bne_iff_ne, beq_eq_false_iff_ne, bne_eq_false_iff_eq, ne_eq, Bool.and_eq_true, Bool.and_eq_false_iff, Bool.or_eq_true, Bool.or_eq_false_iff, Int.toNat_natCast, Nat.zero_add, Int.ofNat_lt, Int.ofNat_le, List.length_cons, List.length_nil, List.drop_zero, List.take_length] at *)
    all_goals (try simp only [show ((i : Int) + 1 - 1).toNat = i by omega, show ((i : Int) + 1).toNat = i + 1 by omega] at *)
    all_goals first
      | omega
      | exact rs_pt h1 (by omega)
      | exact rs_lt h1 (by omega)
      | (show (_ + 1) * 16 ≤ 140737488355328; omega)
      | (rw [show i = f.length - 1 by omega]; done)
      | skip
    refine ⟨i + 1, by omega, by omega, ?_⟩
    repeat' (first | apply And.intro | exact True.intro | exact Lf.mk (by with_reducible rfl) | apply Lf.mk)
    all_goals first | rfl | (rw [Int.natCast_add]; rfl) | exact slL_succ f i

theorem alloc_new (w : World) (o : Obj) : (w.alloc o).heap[w.heap.size]? = some o := by
  show (w.heap.push o)[w.heap.size]? = some o
  exact Array.getElem?_push_size

/-! ### laps: where one begins, and its way -/
def lpAdd (R : List (Nat × Int)) (i : Nat) (s : Int) : List (Nat × Int) := if (R.getLast?).map (·.2) = some s then R else R ++ [(i, s)]
def lpR (sg : Nat → Int) : Nat → List (Nat × Int)
  | 0 => []
  | k + 1 => lpAdd (lpR sg k) k (sg k)
theorem lpR_lt (sg : Nat → Int) : ∀ k, ∀ p ∈ lpR sg k, p.1 < k
  | 0, p, h => by cases h
  | k + 1, p, h => by
    unfold lpR lpAdd at h
    split at h
    · exact Nat.lt_succ_of_lt (lpR_lt sg k p h)
    · rcases List.mem_append.1 h with h | h
      · exact Nat.lt_succ_of_lt (lpR_lt sg k p h)
      · simp only [List.mem_singleton] at h; subst h; exact Nat.lt_succ_self k
theorem lpR_len (sg : Nat → Int) : ∀ k, (lpR sg k).length ≤ k ∧ (0 < k → 0 < (lpR sg k).length)
  | 0 => ⟨Nat.le_refl _, fun h => h⟩
  | k + 1 => by
    have h := lpR_len sg k
    unfold lpR lpAdd
    split
    · rename_i e
      refine ⟨by omega, fun _ => ?_⟩
      cases hr : lpR sg k with
      | nil => rw [hr] at e; cases e
      | cons a r => simp
    · simp; omega
/-- the rows -/
def LapsOk (w : World) (B : Nat) (R : List (Nat × Int)) (cs : List Value) : Prop :=
  cs.length = R.length ∧ ∀ (j : Nat) (p : Nat × Int), R[j]? = some p → ∃ (b : Nat) (z : Int), cs[j]? = some (Value.slice (some ⟨b, 0, none⟩) 3 3) ∧ B ≤ b ∧ w.heap[b]? = some (Obj.cells #[Value.int .i64 p.1, Value.int .i64 z, Value.int .i64 p.2] 3 (0, 0))
theorem LapsOk.nil (w : World) (B : Nat) : LapsOk w B [] [] := ⟨rfl, fun j p h => by simp at h⟩
theorem LapsOk.same {w w' : World} {B : Nat} {R : List (Nat × Int)} {cs : List Value} (h : LapsOk w B R cs) (hk : ∀ (b : Nat) (v z u : Value), w.heap[b]? = some (Obj.cells #[v, z, u] 3 (0, 0)) → w'.heap[b]? = some (Obj.cells #[v, z, u] 3 (0, 0))) : LapsOk w' B R cs :=
  ⟨h.1, fun j p hj => by
    obtain ⟨b, z, h1, h2, h3⟩ := h.2 j p hj
    exact ⟨b, z, h1, h2, hk _ _ _ _ h3⟩⟩
theorem LapsOk.below {w w' : World} {B : Nat} {R : List (Nat × Int)} {cs : List Value} (h : LapsOk w B R cs) (hk : Below w.heap.size w w') : LapsOk w' B R cs :=
  h.same fun b v z u hb => (hk.block _ (Array.getElem?_eq_some_iff.1 hb).1).trans hb
theorem set_far (w : World) {b c : Nat} (i : Nat) (h : b ≠ c) (v : Value) : (w.setCell ⟨b, i, none⟩ v).heap[c]? = w.heap[c]? := by
  simp [World.setCell, Array.getElem?_modify, h]
theorem LapsOk.set {w : World} {B : Nat} {R : List (Nat × Int)} {cs : List Value} (h : LapsOk w B R cs) (b : Nat) (y : Int) (hx : ∃ v z u : Value, w.heap[b]? = some (Obj.cells #[v, z, u] 3 (0, 0))) : LapsOk (w.setCell ⟨b, 1, none⟩ (Value.int .i64 y)) B R cs := by
  refine ⟨h.1, fun j p hj => ?_⟩
  obtain ⟨c, z, h1, h2, h3⟩ := h.2 j p hj
  by_cases e : c = b
  · subst e
    exact ⟨c, y, h1, h2, heap_setCell_same w c 1 _ 3 _ h3⟩
  · exact ⟨c, z, h1, h2, (set_far w _ (Ne.symm e) _).trans h3⟩
theorem LapsOk.push {w : World} {B : Nat} {R : List (Nat × Int)} {cs : List Value} (h : LapsOk w B R cs) {b : Nat} {i : Nat} {z s : Int} (hB : B ≤ b) (hb : w.heap[b]? = some (Obj.cells #[Value.int .i64 i, Value.int .i64 z, Value.int .i64 s] 3 (0, 0))) :
    LapsOk w B (R ++ [(i, s)]) (cs ++ [Value.slice (some ⟨b, 0, none⟩) 3 3]) := by
  refine ⟨by simp [h.1], fun j p hj => ?_⟩
  by_cases e : j < R.length
  · rw [List.getElem?_append_left e] at hj
    obtain ⟨c, z, h1, h2, h3⟩ := h.2 j p hj
    exact ⟨c, z, by rw [List.getElem?_append_left (by rw [h.1]; exact e)]; exact h1, h2, h3⟩
  · rw [List.getElem?_append_right (by omega)] at hj
    have e2 : j - R.length = 0 := by
      rcases Nat.eq_zero_or_pos (j - R.length) with e3 | e3
      · exact e3
      · rw [List.getElem?_eq_none (by simp; omega)] at hj; cases hj
    rw [e2] at hj
    simp at hj
    subst hj
    exact ⟨b, z, by rw [List.getElem?_append_right (by rw [h.1]; omega), h.1, e2]; rfl, hB, hb⟩
theorem own_keep {w w' : World} {B : Nat} {e : TypeId} {s : Nat} {v : Value} {n : Nat} {xs : List Value} (h : w.ownsRow B e s v n xs) (hk : ∀ (b : Nat) (cur : Array Value), w.heap[b]? = some (Obj.cells cur e (0, 0)) → w'.heap[b]? = some (Obj.cells cur e (0, 0))) : w'.ownsRow B e s v n xs := by
  refine ⟨h.1, ?_⟩
  rcases h.2 with h1 | ⟨g, cap, cur, hv, h2, h3, r⟩
  · exact .inl h1
  · exact .inr ⟨g, cap, cur, hv, h2, hk _ _ h3, r⟩

theorem imSlopes_c (f : List Pt) (l1 : 2 ≤ f.length) (l2 : f.length ≤ 1000) (h1 : rsOk f) (sv : Value) (W : World) (rb : List Nat) (h : ListOk W rb .pt f sv) :
    Calls Tryz.prog 255 #[sv] W fun e w' => ∃ g cap, e = .returned (.slice (some ⟨g, 0, none⟩) (f.length - 1) cap) ∧ W.heap.size ≤ g ∧ g < w'.heap.size ∧
      (∀ k, k < f.length - 1 → w'.cell? ⟨g, k * 2, none⟩ = some (.int .i64 (getA zR (slL f (f.length - 1)) k).num) ∧ w'.cell? ⟨g, k * 2 + 1, none⟩ = some (.int .i64 (getA zR (slL f (f.length - 1)) k).den)) ∧ Below W.heap.size W w' := by
  refine (ok_spec_imSlopes (f, ()) [sv] W rb [] [] ⟨[], [], [], [], ⟨h, rfl, rfl⟩, ⟨rfl, rfl⟩, rfl, rfl⟩ trivial (by simp) (by simp) ⟨l1, l2, h1, trivial⟩).mono ?_
  rintro e w' ⟨us, l, rfl, h1, h3, h4, _, h2⟩
  match us, h1 with
  | [u], h5 =>
    obtain ⟨l', h5, h6, h7⟩ := h5
    have hl : (slL f (f.length - 1)).length = f.length - 1 := slL_length f _
    rcases h5.2 with ⟨hv, hn⟩ | ⟨g, cap, cur, hv, hb, hg, hnc, hcm, hcs, htake⟩
    · omega
    · subst hv
      have hc := h5.cells rfl
      refine ⟨g, cap, by rw [hl]; rfl, ?_, (Array.getElem?_eq_some_iff.1 hg).1, fun k hk => ?_, ⟨h2.os, h2.tape, h2.output, h2.size, fun k hk => h2.block k hk (by simp)⟩⟩
      · have := h4 g (by rw [h6]; simp [Value.ownBlock])
        simpa using this
      · have f0 := flat_get .rat (slL f (f.length - 1)) k 0 (by omega) (by decide)
        have f1 := flat_get .rat (slL f (f.length - 1)) k 1 (by omega) (by decide)
        rw [show VK.size .rat = 2 from rfl] at f0 f1
        have c0 := hc (k * 2) (.int .i64 (getA zR (slL f (f.length - 1)) k).num) (by rw [Nat.add_zero] at f0; rw [f0, getA_eq]; rfl)
        have c1 := hc (k * 2 + 1) (.int .i64 (getA zR (slL f (f.length - 1)) k).den) (by rw [f1, getA_eq]; rfl)
        simp only [Addr.add, Nat.zero_add] at c0 c1
        constructor
        · split at c0
          · rename_i e; rw [e] at *; exact c0
          · exact c0
        · rw [if_neg (by omega)] at c1
          exact c1
theorem sign_c (a : Int) (W : World) : Calls Tryz.prog 166 #[.int .i64 a] W fun e w' => e = .returned (.int .i64 (sgn a)) ∧ Below W.heap.size W w' := by
  refine (ok_spec_l1Sign (a, ()) [.int .i64 a] W [] [] [] ⟨[], [], [], [], ⟨rfl, rfl, rfl⟩, ⟨rfl, rfl⟩, rfl, rfl⟩ trivial (by simp) (by simp) trivial).mono ?_
  rintro e w' ⟨us, l, rfl, h1, _, _, _, h2⟩
  match us, h1 with
  | [u], ⟨h3, _⟩ =>
    subst h3
    exact ⟨rfl, h2.os, h2.tape, h2.output, h2.size, fun k hk => h2.block k hk (by simp)⟩
/-- A fact that a walk is not to use. -/
structure VeilL (p : Prop) : Prop where
  out : p
theorem laps_app {V w' : World} {B k : Nat} {s z : Int} {R : List (Nat × Int)} {cs : List Value} {ao : Option Addr} {n cp : Nat} (hl : LapsOk V B R cs) (hown : V.ownsRow B 130 1 (.slice ao n cp) n cs) (hB : B ≤ V.heap.size)
    (hgrow : ((V.alloc (Obj.cells #[Value.int .i64 k, Value.int .i64 z, Value.int .i64 s] 3)).alloc (Obj.cells #[Value.slice (some ⟨V.heap.size, 0, none⟩) 3 3] 130)).grownBy w' (Value.slice ao n cp).ownBlock) :
    LapsOk w' B (R ++ [(k, s)]) (cs ++ [Value.slice (some ⟨V.heap.size, 0, none⟩) 3 3]) ∧ Below V.heap.size V ((V.alloc (Obj.cells #[Value.int .i64 k, Value.int .i64 z, Value.int .i64 s] 3)).alloc (Obj.cells #[Value.slice (some ⟨V.heap.size, 0, none⟩) 3 3] 130)) := by
  generalize ho : Obj.cells #[Value.int .i64 k, Value.int .i64 z, Value.int .i64 s] 3 = o at *
  generalize Obj.cells #[Value.slice (some ⟨V.heap.size, 0, none⟩) 3 3] 130 = o2 at *
  have hb : Below V.heap.size V ((V.alloc o).alloc o2) := ((Below.refl _ V).alloc (Nat.le_refl _) _).alloc (by simp) _
  refine ⟨?_, hb⟩
  have hnew : ((V.alloc o).alloc o2).heap[V.heap.size]? = some o := by
    have h2 := alloc_new V o
    rw [← h2]
    exact (World.grownBy_alloc (V.alloc o) o2 none).block _ (by simp) (by simp)
  have key : ∀ (b : Nat) (v z u : Value), ((V.alloc o).alloc o2).heap[b]? = some (Obj.cells #[v, z, u] 3 (0, 0)) → w'.heap[b]? = some (Obj.cells #[v, z, u] 3 (0, 0)) := by
    intro b v z u hbb
    refine (hgrow.block b (Array.getElem?_eq_some_iff.1 hbb).1 fun e => ?_).trans hbb
    rcases hown.2 with ⟨hv, _⟩ | ⟨g, cap, cur, hv, h2, h3, _⟩
    · rw [hv] at e; cases e
    · rw [hv] at e
      simp only [Value.ownBlock, Option.some.injEq] at e
      subst e
      rw [hb.block _ (Array.getElem?_eq_some_iff.1 h3).1, h3] at hbb
      cases hbb
  refine ((hl.below hb).same key).push hB ?_ (z := z)
  exact key _ _ _ _ (by rw [hnew, ← ho])
theorem frz_at' {w : World} {k : Nat} {cs : Array Value} {t : TypeId} (h : w.heap[k]? = some (.cells cs t (0, 0))) (i : Nat) : w.frozen? ⟨k, i, none⟩ = false := by unfold World.frozen?; rw [h]; simp
theorem cell_at' {w : World} {k : Nat} {cs : Array Value} {t : TypeId} (h : w.heap[k]? = some (.cells cs t (0, 0))) (i : Nat) : w.cell? ⟨k, i, none⟩ = cs[i]? := by unfold World.cell?; rw [h]; rfl
theorem own_low {w : World} {b1 b2 : Nat} {e : TypeId} {size : Nat} {v : Value} {k : Nat} {xs : List Value} (h : w.ownsRow b1 e size v k xs) (hb : b2 ≤ b1) : w.ownsRow b2 e size v k xs := by
  obtain ⟨h0, h1⟩ := h
  refine ⟨h0, ?_⟩
  rcases h1 with h1 | ⟨g, cap, cur, hv, h2, h3⟩
  · exact .inl h1
  · exact .inr ⟨g, cap, cur, hv, Nat.le_trans hb h2, h3⟩
theorem LapsOk.low {w : World} {b1 b2 : Nat} {R : List (Nat × Int)} {cs : List Value} (h : LapsOk w b1 R cs) (hb : b2 ≤ b1) : LapsOk w b2 R cs :=
  ⟨h.1, fun j p hj => by
    obtain ⟨b, z, h1, h2, h3⟩ := h.2 j p hj
    exact ⟨b, z, h1, Nat.le_trans hb h2, h3⟩⟩
theorem own_some {w : World} {B : Nat} {e : TypeId} {s : Nat} {v : Value} {n : Nat} {xs : List Value} (h : w.ownsRow B e s v n xs) (hn : 0 < n) : ∃ g cap, v = .slice (some ⟨g, 0, none⟩) n cap ∧ g < w.heap.size ∧ n ≤ cap ∧ (∀ j u, xs[j]? = some u → w.cell? ⟨g, j, none⟩ = some u) := by
  rcases h.2 with ⟨hv, h0⟩ | ⟨g, cap, cur, hv, hb, hg, hc, r⟩
  · omega
  · subst hv
    refine ⟨g, cap, rfl, (Array.getElem?_eq_some_iff.1 hg).1, hc, fun j u hj => ?_⟩
    have hc := h.cells rfl j u hj
    simp only [Addr.add, Nat.zero_add] at hc
    split at hc
    · rename_i e; rw [e]; exact hc
    · exact hc
theorem own_base {w : World} {B : Nat} {e : TypeId} {s : Nat} {v : Value} {n : Nat} {xs : List Value} (h : w.ownsRow B e s v n xs) : ∀ j, v.ownBlock = some j → B ≤ j := by
  intro j hj
  rcases h.2 with ⟨hv, _⟩ | ⟨g, cap, cur, hv, h2, _⟩
  · rw [hv] at hj; cases hj
  · rw [hv] at hj
    simp only [Value.ownBlock, Option.some.injEq] at hj
    omega
theorem lpR_hit {sg : Nat → Int} {k : Nat} {R : List (Nat × Int)} {i : Nat} (h : lpR sg k = R ++ [(i, sg k)]) : lpR sg (k + 1) = R ++ [(i, sg k)] := by
  unfold lpR lpAdd
  rw [h]
  simp
theorem lpR_miss {sg : Nat → Int} {k : Nat} {R : List (Nat × Int)} {i : Nat} {s : Int} (h : lpR sg k = R ++ [(i, s)]) (hs : s ≠ sg k) : lpR sg (k + 1) = R ++ [(i, s)] ++ [(k, sg k)] := by
  unfold lpR lpAdd
  rw [h]
  simp [hs]
theorem lpR_none {sg : Nat → Int} {k : Nat} (h : lpR sg k = []) : lpR sg (k + 1) = [(k, sg k)] := by
  unfold lpR lpAdd
  rw [h]
  simp
/-- the last row -/
theorem laps_last {w : World} {B : Nat} {R : List (Nat × Int)} {ix : Nat} {s : Int} {cs : List Value} {v : Value} (hl : LapsOk w B (R ++ [(ix, s)]) cs) (hown : w.ownsRow B 130 1 v (R.length + 1) cs) :
    ∃ (g cp b : Nat) (z : Int), v = .slice (some ⟨g, 0, none⟩) (R.length + 1) cp ∧ g < w.heap.size ∧ b < w.heap.size ∧ B ≤ b ∧ b ≠ g ∧ w.cell? ⟨g, R.length, none⟩ = some (.slice (some ⟨b, 0, none⟩) 3 3) ∧ w.heap[b]? = some (Obj.cells #[Value.int .i64 ix, Value.int .i64 z, Value.int .i64 s] 3 (0, 0)) := by
  obtain ⟨b, z, h1, h2, h3⟩ := hl.2 R.length (ix, s) (by simp)
  rcases hown.2 with ⟨hv, hn⟩ | ⟨g, cap, cur, hv, hb, hg, r⟩
  · omega
  · subst hv
    have hc := hown.cells rfl R.length _ h1
    refine ⟨g, cap, b, z, rfl, (Array.getElem?_eq_some_iff.1 hg).1, (Array.getElem?_eq_some_iff.1 h3).1, h2, fun e => ?_, ?_, h3⟩
    · subst e
      rw [hg] at h3
      cases h3
    · simp only [Addr.add, Nat.zero_add] at hc
      split at hc
      · rename_i e; rw [e]; exact hc
      · exact hc
theorem cell1_new (w : World) (a : Value) (t : TypeId) : ∀ j u, [a][j]? = some u → (w.alloc (.cells #[a] t)).cell? ((⟨w.heap.size, 0, none⟩ : Addr).add j) = some u := by
  intro j u hj
  have hn := alloc_new w (.cells #[a] t)
  rcases j with _ | j
  · simp only [Addr.add, if_true, Nat.zero_add]
    unfold World.cell?
    dsimp only
    rw [hn]
    simpa using hj
  · simp at hj
theorem cell2_new (w : World) (a b : Value) (t : TypeId) : ∀ j u, [a, b][j]? = some u → (w.alloc (.cells #[a, b] t)).cell? ((⟨w.heap.size, 0, none⟩ : Addr).add j) = some u := by
  intro j u hj
  have hn := alloc_new w (.cells #[a, b] t)
  rcases j with _ | _ | j
  · simp only [Addr.add, if_true, Nat.zero_add]
    unfold World.cell?
    dsimp only
    rw [hn]
    simpa using hj
  · simp only [Addr.add, Nat.zero_add, Nat.reduceEqDiff, if_false]
    unfold World.cell?
    dsimp only
    rw [hn]
    simpa using hj
  · simp at hj
theorem infoRow : (Tryz.prog.info? 130).map (fun i => (i.zero, i.size, i.bytes)) = some (some (.slice none 0 0), 1, 24) := by kernel_rfl
end Go.Vx
namespace Go.Vx
open Go Go.Proofs Go.RowKit
set_option maxRecDepth 100000
set_option linter.unusedSimpArgs false
set_option linter.unusedVariables false

noncomputable def sgF (f : List Pt) (k : Nat) : Int := sgn (getA zR (slL f (f.length - 1)) k).num

set_option maxHeartbeats 4000000 in
theorem imLaps_c (f : List Pt) (l1 : 2 ≤ f.length) (l2 : f.length ≤ 1000) (h1 : rsOk f) (sv : Value) (w : World) (rb : List Nat) (h : ListOk w rb .pt f sv) :
    Calls Tryz.prog 249 #[sv] w fun e w' => ∃ u cs, e = .returned u ∧ w'.ownsRow w.heap.size 130 1 u (lpR (sgF f) (f.length - 1)).length cs ∧ LapsOk w' w.heap.size (lpR (sgF f) (f.length - 1)) cs ∧ Below w.heap.size w w' := by
  obtain ⟨i0, hi, hz0, hz1, hz2⟩ := info_parts infoRow
  have cS := imSlopes_c f l1 l2 h1 sv w rb h
  generalize hsl : slL f (f.length - 1) = sl at cS
  have hsg : VeilL (∀ k, sgF f k = sgn (getA zR sl k).num) := .mk fun k => by unfold sgF; rw [hsl]
  clear hsl
  generalize sgF f = sg at hsg
  generalize hn : f.length - 1 = n at cS
  have hn1 : 1 ≤ n := by omega
  have hn2 : n ≤ 1000 := by omega
  obtain ⟨aa, c, hsv, _⟩ := h
  subst hsv
  clear h1 hn l1 l2
  go_enter Tryz.func249, Tryz.ntmps249
  go_wp2_with (go_at_call 255; refine cS.mono ?_; rintro e W1 ⟨g, cap, rfl, hg1, hg2, hcells, b1⟩)
  clear cS
  go_loopw [3, 11] (fun v i wr => ∃ (k : Nat) (cs : List Value), k ≤ n ∧ i = .int .i64 k ∧ wr.ownsRow W1.heap.size 130 1 v (lpR sg k).length cs ∧ LapsOk wr W1.heap.size (lpR sg k) cs ∧ Below W1.heap.size W1 wr)
    (fun _ i _ => n - (RowKit.intOf i).toNat)
  case atStart => exact ⟨0, [], Nat.zero_le _, rfl, World.ownsRow_nil _ _ _ _, LapsOk.nil _ _, Below.refl _ _⟩
  case round =>
    obtain ⟨k, cs, hk, rfl, hown, hlaps, hnx⟩ := hrel
    by_cases hkn : k < n
    · obtain ⟨hc0, hc1⟩ := hcells k hkn
      replace hc0 := (hnx.cell (by exact hg2)).trans hc0
      replace hc1 := (hnx.cell (by exact hg2)).trans hc1
      clear hcells
      have hlen := (lpR_len sg k).1
      have hBs := hnx.size
      rcases List.eq_nil_or_concat (lpR sg k) with hR | ⟨R, ⟨ix, s⟩, hR⟩
      · rw [hR] at hown hlaps
        obtain ⟨ao, cp, rfl⟩ : ∃ ao cp, u3 = .slice ao 0 cp := by
          rcases hown.2 with ⟨hv, _⟩ | ⟨g', cap', cur, hv, _⟩
          · exact ⟨none, 0, hv⟩
          · exact ⟨_, _, hv⟩
        go_wp2_with first
          | (go_at_call 166; refine (sign_c _ _).mono ?_; rintro e V ⟨rfl, bV⟩; rw [← hsg.out k]; have kV : Below wr.heap.size wr V := ((Below.refl _ wr).alloc (Nat.le_refl _) _).trans (bV.mono (by simp)); have ownV := own_keep hown (fun b cur hb => (kV.block _ (Array.getElem?_eq_some_iff.1 hb).1).trans hb); clear bV)
          | (at_builtin; refine wpList_append_own _ rfl _ _ 185 rfl W1.heap.size 130 i0 (.slice none 0 0) 1 24 Tryz.underlying185 hi hz0 hz1 hz2 rfl (by decide) _ _ _ rfl ((ownV.alloc _).alloc _) ⟨_, 0, none⟩ 1 1 [.slice (some ⟨V.heap.size, 0, none⟩) 3 3] rfl rfl ?c1 ?c2 ?c3 ?c4 ?c5 ?_)
        case c1 =>
          have := cell1_new (V.alloc (Obj.cells #[Value.int .i64 k, Value.int .i64 (k + 1), Value.int .i64 (sg k)] 3)) (.slice (some ⟨V.heap.size, 0, none⟩) 3 3) 130
          simp only [World.size_alloc] at this
          exact this
        case c2 => intro u hu; simp at hu; subst hu; rfl
        case c3 => decide
        case c4 => decide
        case c5 => have := kV.size; simp; omega
        intro v' w2 hown' hgrow _
        have hsz := kV.size
        obtain ⟨q1, q2⟩ := laps_app (hlaps.below kV) ownV (by omega) hgrow
        have q3 : Below W1.heap.size W1 w2 := ((hnx.trans (kV.mono (by omega))).trans (q2.mono (by omega))).grown hgrow (by simp; omega) (own_base ownV)
        have hst := lpR_none hR
        clear hgrow q2 ownV kV hown hlaps hnx
        go_wp2_with fail
        go_roundw
        case rel => exact ⟨k + 1, _, by omega, rfl, by rw [hst]; exact hown', by rw [hst]; exact q1, q3⟩
        case measure => simp [RowKit.intOf]; omega
      · rw [hR] at hown hlaps hlen
        simp only [List.concat_eq_append, List.length_append, List.length_cons, List.length_nil, Nat.zero_add] at hown hR hlaps hlen
        obtain ⟨go, cp, b, z, rfl, hgo, hbl, hbB, hbg, d1, d2⟩ := laps_last hlaps hown
        by_cases hs : s = sg k
        · subst hs
          go_wp2_with first
            | (go_at_call 166; go_loud (refine (sign_c _ _).mono ?_; rintro e V ⟨rfl, bV⟩; rw [← hsg.out k]; have kV : Below wr.heap.size wr V := ((Below.refl _ wr).alloc (Nat.le_refl _) _).trans (bV.mono (by simp)); have c1 := (kV.cell (p := ⟨go, R.length, none⟩) hgo).trans d1; have d3 := (kV.block _ hbl).trans d2; have c2 : V.cell? ⟨b, 2, none⟩ = some (.int .i64 (sg k)) := cell_at' d3 2; have c3 : V.cell? ⟨b, 1, none⟩ = some (.int .i64 z) := cell_at' d3 1; have z1 := frz_at' d3 1; clear bV))
          have hsz := kV.size
          have q1 := (hlaps.below kV).set b ((k : Int) + 1) ⟨_, _, _, d3⟩
          have q0 := own_keep hown (w' := V.setCell ⟨b, 1, none⟩ (.int .i64 ((k : Int) + 1))) (fun j cur hb => by
            have hj := (kV.block _ (Array.getElem?_eq_some_iff.1 hb).1).trans hb
            refine (set_far V 1 (fun e => ?_) _).trans hj
            subst e
            rw [hj] at d3
            cases d3)
          have q3 := (hnx.trans (kV.mono (by omega))).setCell (p := ⟨b, 1, none⟩) hbB (.int .i64 ((k : Int) + 1))
          have hst := lpR_hit hR
          clear hown hlaps hnx kV
          go_roundw
          case rel => exact ⟨k + 1, cs, by omega, rfl, by rw [hst]; simpa using q0, by rw [hst]; exact q1, q3⟩
          case measure => simp [RowKit.intOf]; omega
        · go_wp2_with first
            | (go_at_call 166; go_loud (refine (sign_c _ _).mono ?_; rintro e V ⟨rfl, bV⟩; rw [← hsg.out k]; have kV : Below wr.heap.size wr V := ((Below.refl _ wr).alloc (Nat.le_refl _) _).trans (bV.mono (by simp)); have c1 := (kV.cell (p := ⟨go, R.length, none⟩) hgo).trans d1; have d3 := (kV.block _ hbl).trans d2; have c2 : V.cell? ⟨b, 2, none⟩ = some (.int .i64 s) := cell_at' d3 2; have c3 : V.cell? ⟨b, 1, none⟩ = some (.int .i64 z) := cell_at' d3 1; have z1 := frz_at' d3 1; have ownV := own_keep hown (fun b cur hb => (kV.block _ (Array.getElem?_eq_some_iff.1 hb).1).trans hb); clear bV))
            | (at_builtin; refine wpList_append_own _ rfl _ _ 185 rfl W1.heap.size 130 i0 (.slice none 0 0) 1 24 Tryz.underlying185 hi hz0 hz1 hz2 rfl (by decide) _ _ _ rfl ((ownV.alloc _).alloc _) ⟨_, 0, none⟩ 1 1 [.slice (some ⟨V.heap.size, 0, none⟩) 3 3] rfl rfl ?c1 ?c2 ?c3 ?c4 ?c5 ?_)
          case c1 =>
            have := cell1_new (V.alloc (Obj.cells #[Value.int .i64 k, Value.int .i64 (k + 1), Value.int .i64 (sg k)] 3)) (.slice (some ⟨V.heap.size, 0, none⟩) 3 3) 130
            simp only [World.size_alloc] at this
            exact this
          case c2 => intro u hu; simp at hu; subst hu; rfl
          case c3 => unfold maxLen; first | omega | (simp; omega)
          case c4 => first | omega | (simp; omega)
          case c5 => have := kV.size; simp; omega
          intro v' w2 hown' hgrow _
          have hsz := kV.size
          obtain ⟨q1, q2⟩ := laps_app (hlaps.below kV) ownV (by omega) hgrow
          have q3 : Below W1.heap.size W1 w2 := ((hnx.trans (kV.mono (by omega))).trans (q2.mono (by omega))).grown hgrow (by simp; omega) (own_base ownV)
          have hst := lpR_miss hR hs
          clear hgrow q2 ownV kV hown hlaps hnx
          go_wp2_with fail
          go_roundw
          case rel => exact ⟨k + 1, _, by omega, rfl, by rw [hst]; simpa using hown', by rw [hst]; exact q1, q3⟩
          case measure => simp [RowKit.intOf]; omega
    · go_wp2_with fail
      have hkn2 : k = n := by omega
      subst hkn2
      go_ret
      exact ⟨_, cs, rfl, own_low hown b1.size, hlaps.low b1.size, b1.trans (hnx.mono b1.size)⟩
end Go.Vx
namespace Go.Vx
open Go Go.Proofs Go.RowKit
set_option maxRecDepth 100000
set_option linter.unusedSimpArgs false
set_option linter.unusedVariables false

theorem listPt_cells {w : World} {rb : List Nat} {f : List Pt} {sv : Value} (h : ListOk w rb .pt f sv) (h0 : 0 < f.length) :
    ∃ b off c, sv = .slice (some ⟨b, off, none⟩) f.length c ∧ b < w.heap.size ∧ ∀ j, j < f.length → w.cell? ⟨b, off + j * 4, none⟩ = some (.int .i64 (getA zP f j).x.num) ∧ w.cell? ⟨b, off + j * 4 + 1, none⟩ = some (.int .i64 (getA zP f j).x.den) := by
  obtain ⟨aa, c, hsv, hc, hm, hcell⟩ := h
  obtain ⟨ad, rfl, hadr, hadl, hcl⟩ := hcell h0
  obtain ⟨b, off, sp⟩ := ad
  have hg : ∀ j, j < f.length → ∀ i, i < 4 → (flat .pt f)[j * 4 + i]? = (valCells .pt (getA zP f j))[i]? := fun j hj i hi => by
    have := flat_get .pt f j i hj hi
    rw [show VK.size .pt = 4 from rfl] at this
    rw [this, getA_eq]
    rfl
  have hsp : sp = none := by
    have h0 := hcl 0 (.int .i64 (getA zP f 0).x.num) (by have := hg 0 h0 0 (by omega); simpa [valCells] using this)
    cases sp with
    | none => rfl
    | some q =>
      exfalso
      simp only [Addr.add, if_true, World.cell?] at h0
      split at h0 <;> simp at h0
  subst hsp
  have cell : ∀ j u, (flat .pt f)[j]? = some u → w.cell? ⟨b, off + j, none⟩ = some u := fun j u hj => by
    have := hcl j u hj
    simp only [Addr.add] at this
    split at this
    · rename_i e
      subst e
      simpa using this
    · exact this
  refine ⟨b, off, c, hsv, hadl, fun j hj => ⟨?_, ?_⟩⟩
  · exact cell (j * 4) _ (by have := hg j hj 0 (by omega); simpa [valCells] using this)
  · exact cell (j * 4 + 1) _ (by have := hg j hj 1 (by omega); simpa [valCells] using this)
noncomputable def lpTn (f : List Pt) : List Rt := ((lpR (sgF f) (f.length - 1)).drop 1).map fun p => (getA zP f p.1).x
theorem infoRat : (Tryz.prog.info? 26).map (fun i => (i.zero, i.size, i.bytes)) = some (some (.agg #[.int .i64 0, .int .i64 0]), 2, 16) := by kernel_rfl
set_option maxHeartbeats 4000000 in
theorem lpTurns_c (f : List Pt) (l1 : 2 ≤ f.length) (l2 : f.length ≤ 1000) (h1 : rsOk f) (sv : Value) (w : World) (rb : List Nat) (h : ListOk w rb .pt f sv) :
    Calls Tryz.prog 237 #[sv] w fun e w' => ∃ u, e = .returned u ∧ w'.ownsRow w.heap.size 26 2 u (lpTn f).length (flat .rat (lpTn f)) ∧ Below w.heap.size w w' := by
  obtain ⟨i0, hi, hz0, hz1, hz2⟩ := info_parts infoRat
  have cS := imLaps_c f l1 l2 h1 sv w rb h
  obtain ⟨fb, fo, fc, hsv, hfb, hfc⟩ := listPt_cells h (by omega)
  have hT : VeilL (lpTn f = ((lpR (sgF f) (f.length - 1)).drop 1).map fun p => (getA zP f p.1).x) := .mk rfl
  generalize lpTn f = T at hT
  have hlt := lpR_lt (sgF f) (f.length - 1)
  have hlen := lpR_len (sgF f) (f.length - 1)
  generalize lpR (sgF f) (f.length - 1) = R at hT cS hlt hlen
  have hR0 : 0 < R.length := hlen.2 (by omega)
  have hR1 : R.length ≤ f.length - 1 := hlen.1
  have hTl : T.length = R.length - 1 := by rw [hT.out]; simp
  subst hsv
  clear h hlen h1
  go_enter Tryz.func237, Tryz.ntmps237
  go_wp2_with (go_at_call 249; refine cS.mono ?_; rintro e W1 ⟨u, cs, rfl, hown, hlaps, b1⟩; obtain ⟨g, cap, rfl, hg1, hcap, hg2⟩ := own_some hown hR0)
  · have hR2 : R.length = 1 := by omega
    go_loopw [3, 10] (fun v i wr => ∃ k : Nat, k ≤ R.length - 1 ∧ i = .int .i64 k ∧ wr.ownsRow W1.heap.size 26 2 v k (flat .rat (T.take k)) ∧ Below W1.heap.size W1 wr) (fun _ i _ => R.length - (RowKit.intOf i).toNat)
    case atStart => exact ⟨0, Nat.zero_le _, rfl, World.ownsRow_nil _ _ _ _, Below.refl _ _⟩
    case round =>
      obtain ⟨k, hk, rfl, hown2, hnx⟩ := hrel
      by_cases hkn : k < R.length - 1
      · omega
      · go_wp2_with fail
        have hkn2 : k = T.length := by omega
        subst hkn2
        rw [List.take_length] at hown2
        go_ret
        exact ⟨_, rfl, own_low hown2 b1.size, b1.trans (hnx.mono b1.size)⟩
  · go_loopw [3, 10] (fun v i wr => ∃ k : Nat, k ≤ R.length - 1 ∧ i = .int .i64 k ∧ wr.ownsRow W1.heap.size 26 2 v k (flat .rat (T.take k)) ∧ Below W1.heap.size W1 wr) (fun _ i _ => R.length - (RowKit.intOf i).toNat)
    case atStart => exact ⟨0, Nat.zero_le _, rfl, World.ownsRow_nil _ _ _ _, Below.refl _ _⟩
    case round =>
      obtain ⟨k, hk, rfl, hown2, hnx⟩ := hrel
      by_cases hkn : k < R.length - 1
      · have hk1 : k + 1 < R.length := by omega
        obtain ⟨b, z, d1, d2, d3⟩ := hlaps.2 (k + 1) R[k + 1] (List.getElem?_eq_getElem hk1)
        have hix := hlt _ (List.getElem_mem hk1)
        have hTk : VeilL (T[k]? = some (getA zP f R[k + 1].1).x) := .mk (by rw [hT.out]; simp [Nat.add_comm 1 k, hk1])
        generalize R[k + 1] = p at d3 hix hTk
        obtain ⟨ix, s⟩ := p
        dsimp only at d3 hix hTk
        have hbl : b < W1.heap.size := (Array.getElem?_eq_some_iff.1 d3).1
        have c1 : wr.cell? ⟨g, 1 + k, none⟩ = some (.slice (some ⟨b, 0, none⟩) 3 3) := by rw [Nat.add_comm 1 k]; exact (hnx.cell (by exact hg1)).trans (hg2 (k + 1) _ d1)
        have c2 : wr.cell? ⟨b, 0, none⟩ = some (.int .i64 ix) := (hnx.cell (by exact hbl)).trans (cell_at' d3 0)
        obtain ⟨c3, c4⟩ := hfc ix (by omega)
        have hfb2 : fb < W1.heap.size := Nat.lt_of_lt_of_le hfb b1.size
        replace c3 := (hnx.cell (by exact hfb2)).trans ((b1.cell (by exact hfb)).trans c3)
        replace c4 := (hnx.cell (by exact hfb2)).trans ((b1.cell (by exact hfb)).trans c4)
        generalize hx : (getA zP f ix).x = x at c3 c4 hTk
        have hsz := hnx.size
        have hix2 : ix < f.length := by omega
        go_wp2_with (at_builtin; refine wpList_append_own _ rfl _ _ 42 rfl W1.heap.size 26 i0 (.agg #[.int .i64 0, .int .i64 0]) 2 16 Tryz.underlying42 hi hz0 hz1 hz2 rfl (by decide) _ _ _ rfl (hown2.alloc _) ⟨_, 0, none⟩ 1 1 [.int .i64 x.num, .int .i64 x.den] rfl rfl ?c1 ?c2 ?c3 ?c4 ?c5 ?_)
        case c1 => exact cell2_new _ _ _ _
        case c2 => intro u hu; simp at hu; rcases hu with rfl | rfl <;> rfl
        case c3 => unfold maxLen; omega
        case c4 => omega
        case c5 => simp; omega
        intro v' w2 hown' hgrow _
        have q3 : Below W1.heap.size W1 w2 := (hnx.alloc hsz _).grown hgrow (by simp; omega) (own_base hown2)
        have hfl : flat .rat (T.take (k + 1)) = flat .rat (T.take k) ++ [.int .i64 x.num, .int .i64 x.den] := by
          rw [List.take_add_one, hTk.out, flat_append]
          rfl
        clear hgrow hown2 hnx
        go_wp2_with fail
        go_roundw
        case rel => exact ⟨k + 1, by omega, rfl, by rw [hfl]; exact hown', q3⟩
        case measure => simp [RowKit.intOf]; omega
      · go_wp2_with fail
        have hkn2 : k = T.length := by omega
        subst hkn2
        rw [List.take_length] at hown2
        go_ret
        exact ⟨_, rfl, own_low hown2 b1.size, b1.trans (hnx.mono b1.size)⟩
noncomputable def s_spec_lpTurns : Sig := ⟨237, [.list .pt], [.list 26 .rat], fun ((f : List Pt), _) => ⟨[2 ≤ f.length, f.length ≤ 1000, rsOk f], (lpTn f, ()), ()⟩⟩
theorem ok_spec_lpTurns : GSpec Tryz.prog s_spec_lpTurns := by
  intro x vs w rb cb ob hargs hraw hnd hrb hpre
  obtain ⟨(f : List Pt), ⟨⟩⟩ := x
  obtain ⟨l1, l2, h1, _⟩ := hpre
  match vs, hargs with
  | [v], ⟨c1, o1, c2, o2, ⟨g1, g2, g3⟩, ⟨g4, g5⟩, g6, g7⟩ =>
    subst g2 g3 g4 g5
    simp only [List.append_nil] at g6 g7
    subst g6 g7
    refine (lpTurns_c f l1 l2 h1 v w rb g1).mono ?_
    rintro e w' ⟨u, rfl, q1, k1⟩
    refine ⟨[u], u.ownBlock.toList, rfl, ?_, ?_, fun b hb => ?_, trivial, ⟨k1.os, k1.tape, k1.output, k1.size, fun j hj _ => k1.block j hj⟩⟩
    · exact ⟨[], own_low q1 (Nat.zero_le _), by simp, rfl⟩
    · cases u.ownBlock <;> simp
    · rcases q1.2 with ⟨rfl, _⟩ | ⟨g, cap, cur, rfl, hgb, _⟩
      · simp [Value.ownBlock] at hb
      · simp [Value.ownBlock] at hb
        exact .inl (by omega)
theorem lpTn_mem {f : List Pt} (h : 2 ≤ f.length) : ∀ x ∈ lpTn f, ∃ p ∈ f, x = p.x := by
  intro x hx
  unfold lpTn at hx
  obtain ⟨p, hp, rfl⟩ := List.mem_map.1 hx
  have hlt := lpR_lt _ _ p (List.mem_of_mem_drop hp)
  refine ⟨getA zP f p.1, ?_, rfl⟩
  rw [getA_eq, List.getD_eq_getElem?_getD, List.getElem?_eq_getElem (by omega)]
  exact List.getElem_mem _
theorem lpTn_len (f : List Pt) : (lpTn f).length ≤ f.length := by
  have := (lpR_len (sgF f) (f.length - 1)).1
  unfold lpTn
  simp
  omega
end Go.Vx
namespace Go.Vx
open Go
set_option maxRecDepth 100000
set_option linter.unusedSimpArgs false
set_option linter.unusedVariables false

abbrev qX (f : List Pt) (i : Nat) : Rat := qR (getA zP f i).x
abbrev qY (f : List Pt) (i : Nat) : Rat := qR (getA zP f i).y
theorem r_cancel {a b c : Rat} (hc : 0 < c) (h : a * c = b * c) : a = b := by
  have : c ≠ 0 := by grind
  grind
theorem r_prod {a c : Rat} (hc : 0 < c) (h : 0 ≤ a * c) : 0 ≤ a := by
  by_cases h1 : a < 0
  · have := Rat.mul_pos (show 0 < -a by grind) hc
    grind
  · grind
/-- strictly rising places -/
def Inc (f : List Pt) : Prop := ∀ i, i + 1 < f.length → qX f i < qX f (i + 1)
theorem Inc.le {f : List Pt} (h : Inc f) : ∀ (i k : Nat), i + k < f.length → qX f i ≤ qX f (i + k)
  | i, 0, _ => by rw [Nat.add_zero]; exact Rat.le_refl
  | i, k + 1, hk => by
    have h1 := Inc.le h i k (by omega)
    have h2 := h (i + k) (by omega)
    rw [← Nat.add_assoc]
    grind
theorem Inc.lt {f : List Pt} (h : Inc f) {i j : Nat} (hij : i < j) (hj : j < f.length) : qX f i < qX f j := by
  have h1 := h i (by omega)
  have h2 := Inc.le h (i + 1) (j - (i + 1)) (by omega)
  rw [show i + 1 + (j - (i + 1)) = j by omega] at h2
  grind
/-- on the line of a piece -/
def OnP (f : List Pt) (i : Nat) (t v : Rat) : Prop := (v - qY f i) * (qX f (i + 1) - qX f i) = (qY f (i + 1) - qY f i) * (t - qX f i)
/-- the value at t is v -/
def PV (f : List Pt) (t v : Rat) : Prop := ∃ i, i + 1 < f.length ∧ qX f i ≤ t ∧ t ≤ qX f (i + 1) ∧ OnP f i t v
theorem OnP.right {f : List Pt} (h : Inc f) {i : Nat} (hi : i + 1 < f.length) {v : Rat} (ho : OnP f i (qX f (i + 1)) v) : v = qY f (i + 1) := by
  have h1 := h i hi
  unfold OnP at ho
  have : v - qY f i = qY f (i + 1) - qY f i := r_cancel (c := qX f (i + 1) - qX f i) (by grind) ho
  grind
theorem OnP.left {f : List Pt} (h : Inc f) {i : Nat} (hi : i + 1 < f.length) {v : Rat} (ho : OnP f i (qX f i) v) : v = qY f i := by
  have h1 := h i hi
  unfold OnP at ho
  have : v - qY f i = 0 := r_cancel (c := qX f (i + 1) - qX f i) (by grind) (by grind)
  grind
theorem OnP.uniq {f : List Pt} (h : Inc f) {i : Nat} (hi : i + 1 < f.length) {t v w : Rat} (h1 : OnP f i t v) (h2 : OnP f i t w) : v = w := by
  have h3 := h i hi
  unfold OnP at h1 h2
  have : v - qY f i = w - qY f i := r_cancel (c := qX f (i + 1) - qX f i) (by grind) (by rw [h1, h2])
  grind
theorem PV.uniq_lt {f : List Pt} (h : Inc f) {i j : Nat} (hij : i < j) (hi : i + 1 < f.length) (hj : j + 1 < f.length) {t v w : Rat} (ht : t ≤ qX f (i + 1)) (ht2 : qX f j ≤ t) (h1 : OnP f i t v) (h2 : OnP f j t w) : v = w := by
  have hle := Inc.le h (i + 1) (j - (i + 1)) (by omega)
  rw [show i + 1 + (j - (i + 1)) = j by omega] at hle
  have e : j = i + 1 := by
    rcases Nat.lt_or_ge (i + 1) j with h3 | h3
    · have := Inc.lt h h3 (by omega); grind
    · omega
  subst e
  have et : t = qX f (i + 1) := by grind
  subst et
  rw [h1.right h hi, h2.left h hj]
theorem PV.uniq {f : List Pt} (h : Inc f) {t v w : Rat} (h1 : PV f t v) (h2 : PV f t w) : v = w := by
  obtain ⟨i, a1, a2, a3, a4⟩ := h1
  obtain ⟨j, b1, b2, b3, b4⟩ := h2
  rcases Nat.lt_trichotomy i j with e | e | e
  · exact PV.uniq_lt h e a1 b1 a3 b2 a4 b4
  · subst e; exact a4.uniq h a1 b4
  · exact (PV.uniq_lt h e b1 a1 b3 a2 b4 a4).symm
/-- between two of a rising sequence -/
theorem locate (z : Nat → Rat) : ∀ (n : Nat) {t : Rat}, 0 < n → z 0 ≤ t → t ≤ z n → ∃ i, i < n ∧ z i ≤ t ∧ t ≤ z (i + 1)
  | 0, _, h, _, _ => by omega
  | 1, t, _, h1, h2 => ⟨0, by omega, h1, h2⟩
  | n + 2, t, _, h1, h2 => by
    by_cases h : t ≤ z (n + 1)
    · obtain ⟨i, a, b, c⟩ := locate z (n + 1) (by omega) h1 h
      exact ⟨i, by omega, b, c⟩
    · exact ⟨n + 1, by omega, by grind, h2⟩
open Classical in
noncomputable def pv (f : List Pt) (t : Rat) : Rat := if h : ∃ v, PV f t v then Classical.choose h else 0
theorem pv_eq {f : List Pt} (h : Inc f) {t v : Rat} (hv : PV f t v) : pv f t = v := by
  unfold pv
  rw [dif_pos ⟨v, hv⟩]
  exact PV.uniq h (Classical.choose_spec (p := fun v => PV f t v) ⟨v, hv⟩) hv
theorem pv_piece {f : List Pt} (h : Inc f) {i : Nat} (hi : i + 1 < f.length) {t : Rat} (h1 : qX f i ≤ t) (h2 : t ≤ qX f (i + 1)) : OnP f i t (pv f t) := by
  have h3 := h i hi
  have h4 : qX f (i + 1) - qX f i ≠ 0 := by grind
  have : OnP f i t (qY f i + (qY f (i + 1) - qY f i) * (t - qX f i) / (qX f (i + 1) - qX f i)) := by
    unfold OnP
    generalize qX f (i + 1) - qX f i = d at *
    generalize (qY f (i + 1) - qY f i) * (t - qX f i) = e
    grind
  rw [pv_eq h ⟨i, hi, h1, h2, this⟩]
  exact this
theorem pv_PV {f : List Pt} (h : Inc f) {i : Nat} (hi : i + 1 < f.length) {t : Rat} (h1 : qX f i ≤ t) (h2 : t ≤ qX f (i + 1)) : PV f t (pv f t) := ⟨i, hi, h1, h2, pv_piece h hi h1 h2⟩
theorem pv_knot {f : List Pt} (h : Inc f) (h2 : 2 ≤ f.length) {i : Nat} (hi : i < f.length) : pv f (qX f i) = qY f i := by
  by_cases hn : i + 1 < f.length
  · exact (pv_piece h hn Rat.le_refl (Rat.le_of_lt (h i hn))).left h hn
  · obtain ⟨k, rfl⟩ : ∃ k, i = k + 1 := ⟨i - 1, by omega⟩
    exact (pv_piece h (i := k) (by omega) (Rat.le_of_lt (h k (by omega))) Rat.le_refl).right h (by omega)

/-- on a line between a and b -/
def Aff (F : Rat → Rat) (a b : Rat) : Prop := ∀ t, a ≤ t → t ≤ b → (F t - F a) * (b - a) = (F b - F a) * (t - a)
theorem Aff.id (a b : Rat) : Aff (fun t => t) a b := fun t _ _ => by grind
theorem aff_piece {f : List Pt} (h : Inc f) {i : Nat} (hi : i + 1 < f.length) {a b : Rat} (h1 : qX f i ≤ a) (hab : a ≤ b) (h2 : b ≤ qX f (i + 1)) : Aff (pv f) a b := fun t ha hb => by
  have h3 := h i hi
  have e1 := pv_piece h hi h1 (by grind)
  have e2 := pv_piece h hi (by grind) h2
  have e3 := pv_piece h hi (t := t) (by grind) (by grind)
  unfold OnP at e1 e2 e3
  refine r_cancel (c := qX f (i + 1) - qX f i) (by grind) ?_
  generalize qX f (i + 1) - qX f i = d at *
  generalize qY f (i + 1) - qY f i = s at *
  grind
/-- where no knot lies between -/
theorem no_knot {f : List Pt} (h2 : 2 ≤ f.length) {a b : Rat} (h0 : qX f 0 ≤ a) (hab : a < b) (h1 : b ≤ qX f (f.length - 1)) (hn : ∀ i, i < f.length → ¬ (a < qX f i ∧ qX f i < b)) : ∃ i, i + 1 < f.length ∧ qX f i ≤ a ∧ b ≤ qX f (i + 1) := by
  -- the last knot that is not behind a
  have : ∀ n, n < f.length → a < qX f n → ∃ i, i + 1 < f.length ∧ qX f i ≤ a ∧ a < qX f (i + 1) := by
    intro n
    induction n with
    | zero => intro _ h; grind
    | succ n ih =>
      intro hl h
      by_cases h3 : a < qX f n
      · exact ih (by omega) h3
      · exact ⟨n, hl, by grind, h⟩
  obtain ⟨i, h3, h4, h5⟩ := this (f.length - 1) (by omega) (by grind)
  refine ⟨i, h3, h4, ?_⟩
  have := hn (i + 1) h3
  grind
theorem Aff.mid {F : Rat → Rat} {a b : Rat} (h : Aff F a b) (hab : a < b) {t : Rat} (h1 : a ≤ t) (h2 : t ≤ b) (hF : F a ≤ F b) : F a ≤ F t ∧ F t ≤ F b := by
  have e := h t h1 h2
  have p1 := Rat.mul_nonneg (show 0 ≤ F b - F a by grind) (show 0 ≤ t - a by grind)
  have p2 := Rat.mul_nonneg (show 0 ≤ F b - F a by grind) (show 0 ≤ b - t by grind)
  have q1 : 0 ≤ F t - F a := r_prod (c := b - a) (by grind) (by grind)
  have q2 : 0 ≤ F b - F t := r_prod (c := b - a) (by grind) (by grind)
  grind
theorem Aff.mid' {F : Rat → Rat} {a b : Rat} (h : Aff F a b) (hab : a < b) {t : Rat} (h1 : a ≤ t) (h2 : t ≤ b) (hF : F b ≤ F a) : F b ≤ F t ∧ F t ≤ F a := by
  have e := h t h1 h2
  have p1 := Rat.mul_nonneg (show 0 ≤ F a - F b by grind) (show 0 ≤ t - a by grind)
  have p2 := Rat.mul_nonneg (show 0 ≤ F a - F b by grind) (show 0 ≤ b - t by grind)
  have q1 : 0 ≤ F a - F t := r_prod (c := b - a) (by grind) (by grind)
  have q2 : 0 ≤ F t - F b := r_prod (c := b - a) (by grind) (by grind)
  grind
theorem Aff.comp {F G : Rat → Rat} {a b : Rat} (hab : a < b) (hG : Aff G a b) (hF : (G a ≤ G b ∧ (G a < G b → Aff F (G a) (G b))) ∨ (G b < G a ∧ Aff F (G b) (G a))) : Aff (fun t => F (G t)) a b := fun t h1 h2 => by
  have e := hG t h1 h2
  show (F (G t) - F (G a)) * (b - a) = (F (G b) - F (G a)) * (t - a)
  rcases hF with ⟨hle, hF⟩ | ⟨hlt, hF⟩
  · by_cases hlt : G a < G b
    · obtain ⟨m1, m2⟩ := hG.mid hab h1 h2 hle
      have e2 := hF hlt _ m1 m2
      refine r_cancel (c := G b - G a) (by grind) ?_
      generalize F (G t) = x at *
      generalize F (G a) = y at *
      generalize F (G b) = z at *
      have : (x - y) * (b - a) * (G b - G a) = ((x - y) * (G b - G a)) * (b - a) := by grind
      rw [this, e2]
      have : (z - y) * (G t - G a) * (b - a) = (z - y) * ((G t - G a) * (b - a)) := by grind
      rw [this, e]
      grind
    · have e3 : G a = G b := by grind
      have e4 : G t - G a = 0 := r_cancel (c := b - a) (by grind) (by grind)
      rw [show G t = G a by grind, ← e3]
      grind
  · obtain ⟨m1, m2⟩ := hG.mid' hab h1 h2 (Rat.le_of_lt hlt)
    have e2 := hF _ m1 m2
    refine r_cancel (c := G a - G b) (by grind) ?_
    generalize F (G t) = x at *
    generalize F (G a) = y at *
    generalize F (G b) = z at *
    have : (x - y) * (b - a) * (G a - G b) = ((x - z) * (G a - G b)) * (b - a) - (y - z) * (G a - G b) * (b - a) := by grind
    rw [this, e2]
    have : (y - z) * (G t - G b) * (b - a) - (y - z) * (G a - G b) * (b - a) = (y - z) * ((G t - G a) * (b - a)) := by grind
    rw [this, e]
    grind
/-- where a value lies between, it is taken between -/
theorem Aff.back {G : Rat → Rat} {a b x y : Rat} (hab : a < b) (hx1 : (y - G a) * (b - a) = (G b - G a) * (x - a)) (hy : (G a < y ∧ y < G b) ∨ (G b < y ∧ y < G a)) : a < x ∧ x < b := by
  rcases hy with ⟨h1, h2⟩ | ⟨h1, h2⟩
  · have p1 := Rat.mul_pos (show 0 < y - G a by grind) (show 0 < b - a by grind)
    have p2 := Rat.mul_pos (show 0 < G b - y by grind) (show 0 < b - a by grind)
    constructor
    · by_cases h : x ≤ a
      · have := Rat.mul_nonneg (show 0 ≤ G b - G a by grind) (show 0 ≤ a - x by grind); grind
      · grind
    · by_cases h : b ≤ x
      · have := Rat.mul_nonneg (show 0 ≤ G b - G a by grind) (show 0 ≤ x - b by grind); grind
      · grind
  · have p1 := Rat.mul_pos (show 0 < G a - y by grind) (show 0 < b - a by grind)
    have p2 := Rat.mul_pos (show 0 < y - G b by grind) (show 0 < b - a by grind)
    constructor
    · by_cases h : x ≤ a
      · have := Rat.mul_nonneg (show 0 ≤ G a - G b by grind) (show 0 ≤ a - x by grind); grind
      · grind
    · by_cases h : b ≤ x
      · have := Rat.mul_nonneg (show 0 ≤ G a - G b by grind) (show 0 ≤ x - b by grind); grind
      · grind
/-- a list of points that lie at φ and ψ of a rising sequence, where both are lines between -/
theorem interp {l : List Pt} (hl : Inc l) {z : Nat → Rat} {φ ψ : Rat → Rat} {i : Nat} (hi : i + 1 < l.length) (hz : z i < z (i + 1)) (hX : qX l i = φ (z i)) (hX2 : qX l (i + 1) = φ (z (i + 1))) (hY : qY l i = ψ (z i)) (hY2 : qY l (i + 1) = ψ (z (i + 1)))
    (h1 : Aff φ (z i) (z (i + 1))) (h2 : Aff ψ (z i) (z (i + 1))) {t : Rat} (t1 : z i ≤ t) (t2 : t ≤ z (i + 1)) : PV l (φ t) (ψ t) := by
  have h3 := hl i hi
  rw [hX, hX2] at h3
  obtain ⟨m1, m2⟩ := h1.mid hz t1 t2 (Rat.le_of_lt h3)
  refine ⟨i, hi, by rw [hX]; exact m1, by rw [hX2]; exact m2, ?_⟩
  unfold OnP
  rw [hX, hX2, hY, hY2]
  have e1 := h1 t t1 t2
  have e2 := h2 t t1 t2
  refine r_cancel (c := z (i + 1) - z i) (by grind) ?_
  generalize φ (z i) = a at *
  generalize φ (z (i + 1)) = b at *
  generalize ψ (z i) = c at *
  generalize ψ (z (i + 1)) = d at *
  have : (ψ t - c) * (b - a) * (z (i + 1) - z i) = ((ψ t - c) * (z (i + 1) - z i)) * (b - a) := by grind
  rw [this, e2]
  have : (d - c) * (φ t - a) * (z (i + 1) - z i) = (d - c) * ((φ t - a) * (z (i + 1) - z i)) := by grind
  rw [this, e1]
  grind

/-! ### maps -/
theorem map_inc {f : List Pt} (h : mapOk f = true) : Inc f := fun i hi => by
  obtain ⟨m1, m2, m3, m4, m5⟩ := mapOk_iff.1 h
  exact (q_lt (coord_good (ptOk_iff.1 (map_pt h (i := i) (by omega))).1) (coord_good (ptOk_iff.1 (map_pt h hi)).1)).1 (m5 i hi)
theorem map_0 {f : List Pt} (h : mapOk f = true) : qX f 0 = 0 := by show qR _ = 0; rw [(mapOk_iff.1 h).2.2.1, q_zero]
theorem map_1 {f : List Pt} (h : mapOk f = true) : qX f (f.length - 1) = 1 := by show qR _ = 1; rw [(mapOk_iff.1 h).2.2.2.1, q_one]
theorem map_2 {f : List Pt} (h : mapOk f = true) : 2 ≤ f.length := (mapOk_iff.1 h).1.1
theorem map_loc {f : List Pt} (h : mapOk f = true) {t : Rat} (h0 : 0 ≤ t) (h1 : t ≤ 1) : ∃ i, i + 1 < f.length ∧ qX f i ≤ t ∧ t ≤ qX f (i + 1) := by
  have := map_2 h
  obtain ⟨i, a, b, c⟩ := locate (qX f) (f.length - 1) (t := t) (by omega) (by rw [map_0 h]; exact h0) (by rw [map_1 h]; exact h1)
  exact ⟨i, by omega, b, c⟩
theorem y_unit {f : List Pt} (h : mapOk f = true) {i : Nat} (hi : i < f.length) : 0 ≤ qY f i ∧ qY f i ≤ 1 :=
  (q_unit (coord_good (ptOk_iff.1 (map_pt h hi)).2)).1 (coord_unit (ptOk_iff.1 (map_pt h hi)).2)
theorem x_unit {f : List Pt} (h : mapOk f = true) {i : Nat} (hi : i < f.length) : 0 ≤ qX f i ∧ qX f i ≤ 1 :=
  (q_unit (coord_good (ptOk_iff.1 (map_pt h hi)).1)).1 (coord_unit (ptOk_iff.1 (map_pt h hi)).1)
theorem pv_unit {f : List Pt} (h : mapOk f = true) {t : Rat} (h0 : 0 ≤ t) (h1 : t ≤ 1) : 0 ≤ pv f t ∧ pv f t ≤ 1 := by
  obtain ⟨i, hi, a, b⟩ := map_loc h h0 h1
  have hinc := map_inc h
  have hA := aff_piece hinc hi Rat.le_refl (Rat.le_of_lt (hinc i hi)) Rat.le_refl
  have k1 := pv_knot hinc (map_2 h) (i := i) (by omega)
  have k2 := pv_knot hinc (map_2 h) hi
  have u1 := y_unit h (i := i) (by omega)
  have u2 := y_unit h hi
  by_cases hle : pv f (qX f i) ≤ pv f (qX f (i + 1))
  · have := hA.mid (hinc i hi) a b hle
    rw [k1, k2] at this
    grind
  · have := hA.mid' (hinc i hi) a b (by grind)
    rw [k1, k2] at this
    grind
/-- the value that is computed is the exact one -/
theorem vR_q {f : List Pt} {x : Rt} (h : mapOk f = true) (hx : unitRt x = true) (ho : (vR f x).2 = true) : qR (vR f x).1 = pv f (qR x) := by
  obtain ⟨p1, p2, p3, p4⟩ := pc_spec h hx
  have hp := map_pt h (i := pcN f x) (by omega)
  have hq := map_pt h (i := pcN f x + 1) p1
  have hlt := (mapOk_iff.1 h).2.2.2.2 _ p1
  obtain ⟨s1, s2, s3⟩ := slR_ok hp hq hlt
  have gx := coord_good (ptOk_iff.1 hp).1
  have gX := coord_good (ptOk_iff.1 hq).1
  have hg := unit_good hx
  refine (pv_eq (map_inc h) ⟨pcN f x, p1, Rat.not_lt.1 fun hh => p2 ((q_lt hg gx).2 hh), Rat.not_lt.1 fun hh => p3 ((q_lt gX hg).2 hh), ?_⟩).symm
  unfold vR at ho ⊢
  have e := (line_q hp hq hlt hg ho).2
  unfold OnP
  show (qR _ - qR _) * (qR _ - qR _) = (qR _ - qR _) * (qR _ - qR _)
  rw [e, ← s3]
  grind
theorem twR_q {f h : List Pt} {x : Rt} (hf : mapOk f = true) (hh : mapOk h = true) (hx : unitRt x = true) (ho : (twR f h x).2 = true) : qR (twR f h x).1 = pv h (pv f (qR x)) := by
  have h1 := ho
  rw [twR_g, Bool.and_eq_true] at h1
  rw [twR_t h1.1] at ho ⊢
  rw [vR_q hh (vR_unit hf hx h1.1) ho, vR_q hf hx h1.1]
/-- the place before -/
theorem backR_q {p : Pt} {s y : Rt} (gx : goodRt p.x = true) (gy : goodRt p.y = true) (hs : goodRt s = true) (hs0 : s.num ≠ 0) (hy : goodRt y = true) (ho : (backR p s y).2 = true) : (qR (backR p s y).1 - qR p.x) * qR s = qR y - qR p.y := by
  cases e1 : (subRt y p.y).2 with
  | false => rw [backR_1 e1] at ho; cases ho
  | true =>
    cases e2 : (divRt (subRt y p.y).1 s).2 with
    | false => rw [backR_2 e1 e2] at ho; cases ho
    | true =>
      rw [backR_3 e1 e2] at ho ⊢
      have g1 : goodRt (subRt y p.y).1 = true := lowRt_good1 e1
      have g2 : goodRt (divRt (subRt y p.y).1 s).1 = true := lowRt_good1 e2
      have d := q_div g1 hs hs0 e2
      rw [q_sub hy gy e1] at d
      rw [q_add gx g2 ho]
      grind
theorem cr_iff {p q : Pt} {y : Rt} (hp : goodRt p.y = true) (hq : goodRt q.y = true) (hy : goodRt y = true) : crP p q y = true ↔ ((qR p.y < qR y ∧ qR y < qR q.y) ∨ (qR q.y < qR y ∧ qR y < qR p.y)) := by
  unfold crP
  rw [decide_eq_true_eq]
  have a1 := @cmpRt_neg p.y y
  have a2 := @cmpRt_neg q.y y
  have b1 := q_lt hp hy
  have b2 := q_lt hy hp
  have b3 := q_lt hq hy
  have b4 := q_lt hy hq
  have z1 := cmpRt_zero hp hy
  have z2 := cmpRt_zero hq hy
  have lo : ∀ {a : Pt}, cmpRt a.y y = 1 → ltR y a.y := fun h => cmp_pos' (by omega)
  constructor
  · intro h
    rcases cmp_1 p.y y with h1 | h1 | h1 <;> rcases cmp_1 q.y y with h2 | h2 | h2 <;> rw [h1, h2] at h <;> first
      | (exact absurd h (by decide))
      | exact .inl ⟨b1.1 (a1.1 (by omega)), b4.1 (lo h2)⟩
      | exact .inr ⟨b3.1 (a2.1 (by omega)), b2.1 (lo h1)⟩
  · rintro (⟨h1, h2⟩ | ⟨h1, h2⟩)
    · have c1 : cmpRt p.y y = -1 := by
        have := a1.2 (b1.2 h1)
        rcases cmp_1 p.y y with h | h | h <;> omega
      have c2 : cmpRt q.y y = 1 := by
        have := b4.2 h2
        rcases cmp_1 q.y y with h | h | h
        · exact absurd (a2.1 (by omega)) (nlt_of this)
        · rw [z2.1 h] at h2; grind
        · exact h
      rw [c1, c2]; decide
    · have c1 : cmpRt q.y y = -1 := by
        have := a2.2 (b3.2 h1)
        rcases cmp_1 q.y y with h | h | h <;> omega
      have c2 : cmpRt p.y y = 1 := by
        have := b2.2 h2
        rcases cmp_1 p.y y with h | h | h
        · exact absurd (a1.1 (by omega)) (nlt_of this)
        · rw [z1.1 h] at h2; grind
        · exact h
      rw [c1, c2]; decide
/-- what lies before a place between the values of a piece -/
theorem before_mem {g : List Pt} {y : Rt} (hg : mapOk g = true) (hy : goodRt y = true) (hb : bfG g y = true) {j : Nat} (hj : j + 1 < g.length) (hc : (qY g j < qR y ∧ qR y < qY g (j + 1)) ∨ (qY g (j + 1) < qR y ∧ qR y < qY g j)) :
    ∃ x ∈ bfO g y, (qR y - qY g j) * (qX g (j + 1) - qX g j) = (qY g (j + 1) - qY g j) * (qR x - qX g j) := by
  have hp := map_pt hg (i := j) (by omega)
  have hq := map_pt hg hj
  have hlt := (mapOk_iff.1 hg).2.2.2.2 _ hj
  have gp := ptOk_iff.1 hp
  have gq := ptOk_iff.1 hq
  have hcr := (cr_iff (coord_good gp.2) (coord_good gq.2) hy).2 hc
  have hT : biT g y (j + 1) = true := by rw [biT_succ]; exact hcr
  have ho : (bkP g y j).2 = true := by
    unfold bfG at hb
    exact biG_at hb j hj hT
  obtain ⟨s1, s2, s3⟩ := slR_ok hp hq hlt
  have hs0 : (slR (getA zP g j) (getA zP g (j + 1))).num ≠ 0 := fun h0 => by
    have z : qR (slR (getA zP g j) (getA zP g (j + 1))) = 0 := by unfold qR; rw [h0]; show ((0 : Int) : Rat) / _ = 0; grind
    rw [z] at s3
    have : qY g j = qY g (j + 1) := by show qR _ = qR _; grind
    grind
  refine ⟨(bkP g y j).1, ?_, ?_⟩
  · unfold bfO
    refine putsL_mem.2 (.inr ?_)
    unfold biRaw
    simp only [List.mem_flatMap, List.mem_range]
    refine ⟨j + 1, hj, List.mem_append.2 (.inr ?_)⟩
    unfold biB
    rw [mem_bif]
    refine ⟨hT, ?_⟩
    rw [biX_succ]
    exact (backO_t ho).symm
  · have e := backR_q (coord_good gp.1) (coord_good gp.2) s2 hs0 hy ho
    unfold bkP
    show (qR y - qR _) * (qR _ - qR _) = (qR _ - qR _) * (qR _ - qR _)
    rw [← e, ← s3]
    grind
/-- a list that rises, its places as a sequence -/
abbrev qZ (l : List Rt) (i : Nat) : Rat := qR (getA zR l i)
theorem ss_lt {l : List Rt} (hs : SS l) {i j : Nat} (hij : i < j) (hj : j < l.length) : qZ l i < qZ l j := by
  have := List.pairwise_iff_getElem.1 hs i j (by omega) hj hij
  show qR _ < qR _
  rw [getA_eq, getA_eq]
  simpa [List.getD, show i < l.length by omega, hj] using this
theorem ss_none {l : List Rt} (hs : SS l) {i : Nat} (hi : i + 1 < l.length) {x : Rt} (hx : x ∈ l) : ¬ (qZ l i < qR x ∧ qR x < qZ l (i + 1)) := by
  rintro ⟨h1, h2⟩
  obtain ⟨k, hk, rfl⟩ := List.getElem_of_mem hx
  have e : qR l[k] = qZ l k := by show _ = qR _; rw [getA_lt _ _ _ hk]
  rw [e] at h1 h2
  rcases Nat.lt_trichotomy k i with h | h | h
  · have := ss_lt hs h (by omega); grind
  · subst h; grind
  · rcases Nat.lt_trichotomy k (i + 1) with h3 | h3 | h3
    · omega
    · subst h3; grind
    · have := ss_lt hs h3 hk; grind
theorem ss_loc {l : List Rt} (hs : SS l) {x y : Rt} (hx : x ∈ l) (hy : y ∈ l) (hxy : qR x < qR y) {t : Rat} (h1 : qR x ≤ t) (h2 : t ≤ qR y) : ∃ i, i + 1 < l.length ∧ qZ l i ≤ t ∧ t ≤ qZ l (i + 1) := by
  obtain ⟨k, hk, rfl⟩ := List.getElem_of_mem hx
  obtain ⟨m, hm, rfl⟩ := List.getElem_of_mem hy
  have e : ∀ {k : Nat} (hk : k < l.length), qR l[k] = qZ l k := fun hk => by show _ = qR _; rw [getA_lt _ _ _ hk]
  rw [e hk] at h1 hxy
  rw [e hm] at h2 hxy
  have hkm : k < m := by
    rcases Nat.lt_or_ge k m with h | h
    · exact h
    · rcases Nat.lt_or_ge m k with h' | h'
      · have := ss_lt hs h' hk; grind
      · have : k = m := by omega
        subst this; grind
  obtain ⟨i, a, b, c⟩ := locate (fun i => qZ l (k + i)) (m - k) (t := t) (by omega) h1 (by show t ≤ qZ l (k + (m - k)); rw [show k + (m - k) = m by omega]; exact h2)
  exact ⟨k + i, by omega, b, c⟩
end Go.Vx
