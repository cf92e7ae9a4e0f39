/- Draws whose results are named behind the run: what is known of them is what is said beside them. -/
import Derived.Test.YtjiafbjoijffjaaGreatPk11
import Derived.Test.YtjiafbjoijffjaaGreatPk12
import Derived.Shelf.Lay
import Derived.BigQuiet
import Derived.Test.YtjiafbjoijffjaaGreatPk16
namespace Go.Vx
open Go
set_option maxRecDepth 100000
set_option linter.unusedSimpArgs false
set_option linter.unusedVariables false

/-- the seed behind a draw, and what is drawn -/
@[irreducible] def nextB (c : Cur) : Int := if c.at_ < (c.r.bs.length : Int) then c.r.bs.getD c.at_.toNat 0 else 0
@[irreducible] def nextSd (c : Cur) : Int := IntKind.u64.wrap (IntKind.u64.wrap (IntKind.u64.wrap (c.sd * 6364136223846793005) + nextB c) + 1442695040888963407)
@[irreducible] def nextV (c : Cur) : Int := if c.at_ < (c.r.bs.length : Int) then nextB c else Go.RowKit.wrap64 (bits BinOp.and IntKind.u64 (nextSd c / 1099511627776) 255)
@[irreducible] def nextS (c : Cur) : Cur := ⟨c.r, c.at_ + 1, nextSd c⟩
theorem nextS_r (c : Cur) : (nextS c).r = c.r := by unfold nextS; rfl
theorem nextS_eq (c : Cur) : nextS c = ⟨c.r, c.at_ + 1, nextSd c⟩ := by unfold nextS; rfl
theorem getD_mem {α : Type} {l : List α} {d : α} {p : α → Prop} (h : ∀ x ∈ l, p x) (hd : p d) (i : Nat) : p (l.getD i d) := by
  rw [List.getD_eq_getElem?_getD]
  rcases Nat.lt_or_ge i l.length with h1 | h1
  · rw [List.getElem?_eq_getElem h1]; exact h _ (List.getElem_mem h1)
  · rw [List.getElem?_eq_none h1]; exact hd
theorem nextV_rng (c : Cur) : 0 ≤ nextV c ∧ nextV c ≤ 255 := by
  unfold nextV
  split
  · unfold nextB
    split
    · exact getD_mem (p := fun (b : Int) => 0 ≤ b ∧ b ≤ 255) c.r.hb ⟨by omega, by omega⟩ _
    · omega
  · have h0 : 0 ≤ nextSd c ∧ nextSd c < 18446744073709551616 := by unfold nextSd; simp only [IntKind.wrap, IntKind.bits, IntKind.signed]; simp; omega
    obtain ⟨n, hn⟩ : ∃ n : Nat, nextSd c / 1099511627776 = n := ⟨(nextSd c / 1099511627776).toNat, by omega⟩
    rw [hn]
    obtain ⟨m, hm, e⟩ : ∃ m : Nat, m ≤ 255 ∧ bits BinOp.and IntKind.u64 (n : Int) 255 = m := by
      have hle : (BitVec.ofInt 64 (n : Int) &&& BitVec.ofInt 64 255).toNat ≤ 255 := by
        rw [BitVec.toNat_and]
        exact Nat.le_trans Nat.and_le_right (by decide)
      refine ⟨_, hle, ?_⟩
      have : bits BinOp.and IntKind.u64 (n : Int) 255 = IntKind.u64.wrap ((BitVec.ofInt 64 (n : Int) &&& BitVec.ofInt 64 255).toNat : Int) := rfl
      rw [this]
      generalize (BitVec.ofInt 64 (n : Int) &&& BitVec.ofInt 64 255).toNat = q at hle
      simp only [IntKind.wrap, IntKind.bits, IntKind.signed]
      simp
      omega
    rw [e]
    unfold Go.RowKit.wrap64
    omega

@[irreducible] def pickV (c : Cur) (n : Int) : Int := if n ≤ 1 then 0 else if 200 < n then (nextV c * 256 + nextV (nextS c)).tmod n else (nextV c).tmod n
@[irreducible] def pickS (c : Cur) (n : Int) : Cur := if n ≤ 1 then c else if 200 < n then nextS (nextS c) else nextS c
theorem pickS_r (c : Cur) (n : Int) : (pickS c n).r = c.r := by
  unfold pickS
  split
  · rfl
  · split
    · rw [nextS_r, nextS_r]
    · rw [nextS_r]
theorem pickV_1 {c : Cur} {n : Int} (h : n ≤ 1) : pickV c n = 0 := by unfold pickV; rw [if_pos h]
theorem pickV_2 {c : Cur} {n : Int} (h : ¬ n ≤ 1) (h2 : 200 < n) : pickV c n = (nextV c * 256 + nextV (nextS c)).tmod n := by unfold pickV; rw [if_neg h, if_pos h2]
theorem pickV_3 {c : Cur} {n : Int} (h : ¬ n ≤ 1) (h2 : ¬ 200 < n) : pickV c n = (nextV c).tmod n := by unfold pickV; rw [if_neg h, if_neg h2]
theorem pickS_1 {c : Cur} {n : Int} (h : n ≤ 1) : pickS c n = c := by unfold pickS; rw [if_pos h]
theorem pickS_2 {c : Cur} {n : Int} (h : ¬ n ≤ 1) (h2 : 200 < n) : pickS c n = nextS (nextS c) := by unfold pickS; rw [if_neg h, if_pos h2]
theorem pickS_3 {c : Cur} {n : Int} (h : ¬ n ≤ 1) (h2 : ¬ 200 < n) : pickS c n = nextS c := by unfold pickS; rw [if_neg h, if_neg h2]
theorem pickV_rng (c : Cur) (n : Int) : 0 ≤ pickV c n ∧ (pickV c n < n ∨ pickV c n = 0) := by
  have h1 := nextV_rng c
  have h2 := nextV_rng (nextS c)
  unfold pickV
  split
  · omega
  · split
    · exact ⟨Int.tmod_nonneg _ (by omega), .inl (Int.tmod_lt_of_pos _ (by omega))⟩
    · exact ⟨Int.tmod_nonneg _ (by omega), .inl (Int.tmod_lt_of_pos _ (by omega))⟩
theorem pickV_lt (c : Cur) {n : Int} (h : 1 ≤ n) : 0 ≤ pickV c n ∧ pickV c n < n := by
  have := pickV_rng c n
  omega

theorem cur_eta (c : Cur) : (⟨c.r, c.at_, c.sd⟩ : Cur) = c := rfl
/-- m draws are left -/
structure AtOk (m : Nat) (c : Cur) : Prop where
  lo : 0 ≤ c.at_
  hi : c.at_ + (m : Int) ≤ 4611686018427387904
theorem AtOk.le {m k : Nat} {c : Cur} (h : AtOk m c) (hk : k ≤ m) : AtOk k c := ⟨h.lo, by have := h.hi; omega⟩
theorem next_at {m : Nat} {c : Cur} (h : AtOk (m + 1) c) : AtOk m (nextS c) := by
  rw [nextS_eq]
  exact ⟨by have := h.lo; show 0 ≤ c.at_ + 1; omega, by have := h.hi; show c.at_ + 1 + (m : Int) ≤ _; omega⟩
theorem pick_at {m : Nat} {c : Cur} {n : Int} (h : AtOk (m + 2) c) : AtOk m (pickS c n) := by
  unfold pickS
  split
  · exact h.le (by omega)
  · split
    · exact next_at (next_at h)
    · exact (next_at h).le (by omega)
/-- an element of a list -/
@[irreducible] def amongV (c : Cur) (l : List Int) : Int := getA 0 l (pickV c l.length).toNat
theorem getA_all {α : Type} {d : α} {p : α → Prop} : ∀ {l : List α} {i : Nat}, (∀ x ∈ l, p x) → i < l.length → p (getA d l i)
  | x :: r, 0, h, _ => h x List.mem_cons_self
  | x :: r, i + 1, h, hi => getA_all (l := r) (i := i) (fun y hy => h y (List.mem_cons_of_mem _ hy)) (by simpa using hi)
  | [], _, _, hi => by simp at hi
theorem among_all {c : Cur} {l : List Int} {p : Int → Prop} (h : ∀ x ∈ l, p x) (hl : 1 ≤ l.length) : p (amongV c l) := by
  have := pickV_lt c (n := (l.length : Int)) (by omega)
  unfold amongV
  exact getA_all h (by omega)

@[irreducible] noncomputable def ordV (c : Cur) : Int := amongV (pickS c 2) [1, 2, 3, 5, 8, 13, 20, amongV c [0, 21]]
@[irreducible] def ordS (c : Cur) : Cur := pickS (pickS c 2) 8
theorem ordS_eq (c : Cur) : ordS c = pickS (pickS c 2) 8 := by unfold ordS; rfl
theorem ordS_r (c : Cur) : (ordS c).r = c.r := by rw [ordS_eq, pickS_r, pickS_r]
theorem ord_at {m : Nat} {c : Cur} (h : AtOk (m + 4) c) : AtOk m (ordS c) := by rw [ordS_eq]; exact pick_at (pick_at h)

@[irreducible] noncomputable def uniD (c : Cur) : Int := amongV (pickS c 60) [1, 2, 3, 4, 5, 7, 8, 12, 16, 1 + pickV c 60]
def uniS1 (c : Cur) : Cur := pickS (pickS c 60) 10
theorem uniS1_r (c : Cur) : (uniS1 c).r = c.r := by unfold uniS1; rw [pickS_r, pickS_r]
@[irreducible] noncomputable def uniV (c : Cur) : Rt := (lowRt (pickV (uniS1 c) (uniD c + 1)) (uniD c)).1
@[irreducible] noncomputable def uniS (c : Cur) : Cur := pickS (uniS1 c) (uniD c + 1)
theorem uniS_eq (c : Cur) : uniS c = pickS (uniS1 c) (uniD c + 1) := by unfold uniS; rfl
theorem uniS_r (c : Cur) : (uniS c).r = c.r := by rw [uniS_eq]; unfold uniS1; rw [pickS_r, pickS_r, pickS_r]
theorem uni_at {m : Nat} {c : Cur} (h : AtOk (m + 6) c) : AtOk m (uniS c) := by rw [uniS_eq]; exact pick_at (pick_at (pick_at h))
theorem uniD_rng (c : Cur) : 1 ≤ uniD c ∧ uniD c ≤ 60 := by
  have := pickV_lt c (n := 60) (by omega)
  unfold uniD
  refine among_all (p := fun x => 1 ≤ x ∧ x ≤ 60) (fun x hx => ?_) (by simp)
  simp only [List.mem_cons, List.not_mem_nil, or_false] at hx
  omega

@[irreducible] noncomputable def griV (c : Cur) (n : Int) : Rt := (lowRt (pickV c (n + 1)) n).1

@[irreducible] noncomputable def ratN (c : Cur) : Int := amongV (pickS (pickS c 41) 2001) [0, 1, 2, 3, -1, -5, pickV c 41 - 20, pickV (pickS c 41) 2001 - 1000, 1000000000, -1000000000]
def ratS1 (c : Cur) : Cur := pickS (pickS (pickS c 41) 2001) 10
theorem ratS1_r (c : Cur) : (ratS1 c).r = c.r := by unfold ratS1; simp only [pickS_r]
@[irreducible] noncomputable def ratE (c : Cur) : Int := amongV (pickS (pickS (ratS1 c) 20) 1000) [1, 2, 3, 4, 8, 7, 1 + pickV (ratS1 c) 20, 1 + pickV (pickS (ratS1 c) 20) 1000, 1000000000, 999999999]
@[irreducible] noncomputable def ratW (c : Cur) : Rt := bif (lowRt (ratN c) (ratE c)).2 then (lowRt (ratN c) (ratE c)).1 else ⟨1, 1⟩
theorem ratW_t {c : Cur} (h : (lowRt (ratN c) (ratE c)).2 = true) : ratW c = (lowRt (ratN c) (ratE c)).1 := by unfold ratW; rw [h]; rfl
theorem ratW_f {c : Cur} (h : (lowRt (ratN c) (ratE c)).2 = false) : ratW c = ⟨1, 1⟩ := by unfold ratW; rw [h]; rfl
@[irreducible] def ratS (c : Cur) : Cur := pickS (pickS (pickS (ratS1 c) 20) 1000) 10
theorem ratS_eq (c : Cur) : ratS c = pickS (pickS (pickS (ratS1 c) 20) 1000) 10 := by unfold ratS; rfl
theorem ratS_r (c : Cur) : (ratS c).r = c.r := by rw [ratS_eq]; unfold ratS1; simp only [pickS_r]
theorem rat_at {m : Nat} {c : Cur} (h : AtOk (m + 12) c) : AtOk m (ratS c) := by rw [ratS_eq]; exact pick_at (pick_at (pick_at (pick_at (pick_at (pick_at h)))))
theorem ratN_rng (c : Cur) : -1000000000 ≤ ratN c ∧ ratN c ≤ 1000000000 := by
  have h1 := pickV_lt c (n := 41) (by omega)
  have h2 := pickV_lt (pickS c 41) (n := 2001) (by omega)
  unfold ratN
  refine among_all (p := fun x => -1000000000 ≤ x ∧ x ≤ 1000000000) (fun x hx => ?_) (by simp)
  simp only [List.mem_cons, List.not_mem_nil, or_false] at hx
  omega
theorem ratE_rng (c : Cur) : 1 ≤ ratE c ∧ ratE c ≤ 1000000000 := by
  have h1 := pickV_lt (ratS1 c) (n := 20) (by omega)
  have h2 := pickV_lt (pickS (ratS1 c) 20) (n := 1000) (by omega)
  unfold ratE
  refine among_all (p := fun x => 1 ≤ x ∧ x ≤ 1000000000) (fun x hx => ?_) (by simp)
  simp only [List.mem_cons, List.not_mem_nil, or_false] at hx
  omega

/-- which way 'anyRat' goes -/
def anyS1 (c : Cur) : Cur := pickS (ratS c) 40
@[irreducible] noncomputable def anyV (c : Cur) : Rt :=
  if pickV (ratS c) 40 = 0 then ⟨(ratW c).num, amongV (anyS1 c) [0, -1, 1000000001]⟩
  else if pickV (ratS c) 40 = 1 then ⟨amongV (anyS1 c) [1000000001, -1000000001, -9223372036854775808], (ratW c).den⟩
  else if pickV (ratS c) 40 = 2 then ⟨amongV (anyS1 c) [2, 0, -4], amongV (pickS (anyS1 c) 3) [2, 4, 6]⟩
  else ratW c
@[irreducible] def anyS (c : Cur) : Cur :=
  if pickV (ratS c) 40 = 0 then pickS (anyS1 c) 3 else if pickV (ratS c) 40 = 1 then pickS (anyS1 c) 3
  else if pickV (ratS c) 40 = 2 then pickS (pickS (anyS1 c) 3) 3 else anyS1 c
theorem anyS1_r (c : Cur) : (anyS1 c).r = c.r := by unfold anyS1; rw [pickS_r, ratS_r]
theorem anyS_r (c : Cur) : (anyS c).r = c.r := by
  unfold anyS
  split
  · rw [pickS_r, anyS1_r]
  · split
    · rw [pickS_r, anyS1_r]
    · split
      · rw [pickS_r, pickS_r, anyS1_r]
      · rw [anyS1_r]
theorem any_at {m : Nat} {c : Cur} (h : AtOk (m + 18) c) : AtOk m (anyS c) := by
  unfold anyS anyS1
  have h4 : AtOk (m + 4) (pickS (ratS c) 40) := pick_at (rat_at h)
  split
  · exact (pick_at h4).le (by omega)
  · split
    · exact (pick_at h4).le (by omega)
    · split
      · exact pick_at (pick_at h4)
      · exact h4.le (by omega)
theorem any_0 {c : Cur} (h : pickV (ratS c) 40 = 0) : anyV c = ⟨(ratW c).num, amongV (anyS1 c) [0, -1, 1000000001]⟩ ∧ anyS c = pickS (anyS1 c) 3 := by unfold anyV anyS; rw [if_pos h, if_pos h]; exact ⟨rfl, rfl⟩
theorem any_1 {c : Cur} (h : pickV (ratS c) 40 = 1) : anyV c = ⟨amongV (anyS1 c) [1000000001, -1000000001, -9223372036854775808], (ratW c).den⟩ ∧ anyS c = pickS (anyS1 c) 3 := by
  have h0 : ¬ pickV (ratS c) 40 = 0 := by omega
  unfold anyV anyS; rw [if_neg h0, if_neg h0, if_pos h, if_pos h]; exact ⟨rfl, rfl⟩
theorem any_2 {c : Cur} (h : pickV (ratS c) 40 = 2) : anyV c = ⟨amongV (anyS1 c) [2, 0, -4], amongV (pickS (anyS1 c) 3) [2, 4, 6]⟩ ∧ anyS c = pickS (pickS (anyS1 c) 3) 3 := by
  have h0 : ¬ pickV (ratS c) 40 = 0 := by omega
  have h1 : ¬ pickV (ratS c) 40 = 1 := by omega
  unfold anyV anyS; rw [if_neg h0, if_neg h0, if_neg h1, if_neg h1, if_pos h, if_pos h]; exact ⟨rfl, rfl⟩
theorem any_3 {c : Cur} (h0 : ¬ pickV (ratS c) 40 = 0) (h1 : ¬ pickV (ratS c) 40 = 1) (h2 : ¬ pickV (ratS c) 40 = 2) : anyV c = ratW c ∧ anyS c = anyS1 c := by
  unfold anyV anyS; rw [if_neg h0, if_neg h0, if_neg h1, if_neg h1, if_neg h2, if_neg h2]; exact ⟨rfl, rfl⟩
end Go.Vx
namespace Go.Vx
open Go Go.Proofs Go.Shelf Go.RowKit
set_option maxRecDepth 100000
set_option linter.unusedSimpArgs false
set_option linter.unusedVariables false

theorem heap_setCell_same (w : World) (b i : Nat) (cs : Array Value) (t : TypeId) (v : Value) (h : w.heap[b]? = some (.cells cs t (0, 0))) : (w.setCell ⟨b, i, none⟩ v).heap[b]? = some (.cells (cs.setIfInBounds i v) t (0, 0)) := by
  simp [World.setCell, Array.getElem?_modify, h]
theorem kept_two (W : World) (k p q : Nat) (u v : Value) : Kept (fun j => j = k) W ((((W.drewN p).setCell ⟨k, 1, none⟩ u).setCell ⟨k, 2, none⟩ v).drewN q) := by
  refine ⟨rfl, rfl, rfl, ?_, fun j hj hne => ?_⟩
  · simp [World.setCell, World.drewN]
  · exact (Below.heap_setCell _ _ _ j hne).trans (Below.heap_setCell _ _ _ j hne)
theorem cu_cell {w : World} {k : Nat} {cs : Array Value} {t : TypeId} {fz : Nat × Nat} (h : w.heap[k]? = some (.cells cs t fz)) (i : Nat) : w.cell? ⟨k, i, none⟩ = cs[i]? := by unfold World.cell?; rw [h]; rfl
theorem cu_frz {w : World} {k : Nat} {cs : Array Value} {t : TypeId} (h : w.heap[k]? = some (.cells cs t (0, 0))) (i : Nat) : w.frozen? ⟨k, i, none⟩ = false := by simp [World.frozen?, h]

set_option maxHeartbeats 2000000 in
theorem next_walk (r : Raw) (a sd : Int) (k : Nat) (W : World) (rb : List Nat) (ha : 0 ≤ a ∧ a ≤ 4611686018427387904) (hk : W.heap[k]? = some (.cells #[r.u, .int .i64 a, .int .u64 sd] 93 (0, 0))) (hl : ListOk W rb (.num .u8) r.bs r.u) (hkr : k ∉ rb) :
    Calls Tryz.prog 202 #[.pointer (some ⟨k, 0, none⟩)] W fun e w' => e = .returned (.int .i64 (nextV ⟨r, a, sd⟩)) ∧ w'.heap[k]? = some (.cells #[r.u, .int .i64 (a + 1), .int .u64 (nextSd ⟨r, a, sd⟩)] 93 (0, 0)) ∧ Kept (fun j => j = k) W w' := by
  obtain ⟨aa, c, hu, hc, hm, hcell⟩ := hl
  rw [hu] at hk ⊢
  have c0 := cu_cell hk 0
  have c1 := cu_cell hk 1
  have c2 := cu_cell hk 2
  have f1 := cu_frz hk 1
  have f2 := cu_frz hk 2
  simp only [List.getElem?_toArray, List.getElem?_cons_zero, List.getElem?_cons_succ] at c0 c1 c2
  by_cases hlt : a < (r.bs.length : Int)
  · obtain ⟨ad, rfl, hadr, hadl, hcl⟩ := hcell (by omega)
    obtain ⟨b, off, sp⟩ := ad
    have hbk : b ≠ k := fun e => hkr (e ▸ hadr)
    have hg0 : ∀ j, (h : j < r.bs.length) → (flat (.num .u8) r.bs)[j]? = some (.int .u8 r.bs[j]) := fun j h => by
      have := flat_get (.num .u8) r.bs j 0 h (by decide)
      rw [show j * VK.size (.num .u8) + 0 = j by simp [VK.size]] at this
      rw [this]
      simp [valCells, List.getD_eq_getElem?_getD, List.getElem?_eq_getElem h]
    have hsp : sp = none := by
      have := hcl 0 _ (hg0 0 (by omega))
      cases sp with
      | none => rfl
      | some q =>
        exfalso
        simp only [Addr.add, if_true, World.cell?] at this
        split at this <;> simp at this
    subst hsp
    obtain ⟨n, rfl⟩ : ∃ n : Nat, a = n := ⟨a.toNat, by omega⟩
    have hn : n < r.bs.length := by omega
    have hx : W.cell? ⟨b, off + n, none⟩ = some (.int .u8 r.bs[n]) := by
      have := hcl n _ (hg0 n hn)
      simp only [Addr.add] at this
      split at this
      · rename_i e
        subst e
        simpa using this
      · exact this
    have hbr := r.hb r.bs[n] (List.getElem_mem hn)
    have hB : nextB ⟨r, n, sd⟩ = r.bs[n] := by unfold nextB; dsimp only; rw [if_pos hlt]; simp [List.getD_eq_getElem?_getD, hn]
    go_enter Tryz.func202, Tryz.ntmps202
    go_wp2
    go_quiet (fail)
    go_wp2
    all_goals (try (go_quiet (fail)))
    all_goals (try go_wp2)
    all_goals (try (go_quiet (fail)))
    all_goals (try go_wp2)
    have e1 : nextSd ⟨r, n, sd⟩ = IntKind.u64.wrap (IntKind.u64.wrap (IntKind.u64.wrap (sd * 6364136223846793005) + r.bs[n]) + 1442695040888963407) := by unfold nextSd; rw [hB]
    have e2 : nextV ⟨r, n, sd⟩ = r.bs[n] := by unfold nextV; dsimp only; rw [if_pos hlt, hB]
    rw [e1, e2]
    refine bodyPost_ret (results_tmp rfl _ _ _) rfl ⟨rfl, ?_, ?_⟩
    · exact heap_setCell_same _ k 2 _ _ _ (heap_setCell_same _ k 1 _ _ _ hk)
    · exact kept_two _ _ _ _ _ _
  · have hlv : nextB ⟨r, a, sd⟩ = 0 ∧ nextV ⟨r, a, sd⟩ = wrap64 (bits BinOp.and IntKind.u64 (nextSd ⟨r, a, sd⟩ / 1099511627776) 255) := by
      constructor
      · unfold nextB; dsimp only; rw [if_neg hlt]
      · unfold nextV; dsimp only; rw [if_neg hlt]
    obtain ⟨hB, e2⟩ := hlv
    go_enter Tryz.func202, Tryz.ntmps202
    go_wp2
    go_quiet (fail)
    go_wp2
    all_goals (try (go_quiet (fail)))
    all_goals (try go_wp2)
    have e1 : nextSd ⟨r, a, sd⟩ = IntKind.u64.wrap (IntKind.u64.wrap (IntKind.u64.wrap (sd * 6364136223846793005)) + 1442695040888963407) := by unfold nextSd; rw [hB, Int.add_zero]
    rw [e2, e1]
    refine bodyPost_ret (results_tmp rfl _ _ _) rfl ⟨rfl, ?_, ?_⟩
    · exact heap_setCell_same _ k 2 _ _ _ (heap_setCell_same _ k 1 _ _ _ hk)
    · exact kept_two _ _ _ _ _ _

noncomputable def s_cur_next : Sig := ⟨202, [.cell 93 .cur], [.val NI], fun ((c : Cur), _) => ⟨[AtOk 1 c], (nextV c, ()), (nextS c, ())⟩⟩
theorem ok_cur_next : GSpec Tryz.prog s_cur_next := by
  intro x vs w rb cb ob hargs hraw hnd hrb hpre
  obtain ⟨(⟨r, a, sd⟩ : Cur), ⟨⟩⟩ := x
  obtain ⟨h1, _⟩ := hpre
  have h0 := h1.lo
  have h2 := h1.hi
  dsimp only at h0 h2
  match vs, hargs with
  | [v], ⟨c1, o1, c2, o2, ⟨k, g1, hk, g2, g3⟩, ⟨g4, g5⟩, e1, e2⟩ =>
    subst g1 g2 g3 g4 g5
    simp only [List.append_nil] at e1 e2
    subst e1 e2
    refine (next_walk r a sd k w rb ⟨h0, by omega⟩ hk hraw.1 (hrb k (by simp))).mono ?_
    rintro e w' ⟨rfl, q1, q2⟩
    exact ⟨[.int .i64 (nextV ⟨r, a, sd⟩)], [], rfl, ⟨rfl, rfl⟩, List.nodup_nil, (fun _ h => by cases h), ⟨by rw [nextS_eq]; exact q1, trivial⟩, q2.mono fun j _ h => by simpa using h⟩

noncomputable def s_cur_pick : Sig := ⟨136, [.cell 93 .cur, .val NI], [.val NI], fun ((c : Cur), (n : Int), _) => ⟨[AtOk 2 c], (pickV c n, ()), (pickS c n, ())⟩⟩
theorem ok_cur_pick : GSpec Tryz.prog s_cur_pick := by
  refine fn_known tab_ok fol (Known.nil.cons ok_cur_next (by kernel_rfl)) (by decide) Tryz.func136 ?_
  rintro ⟨(c : Cur), (n : Int), ⟨⟩⟩ hl ⟨h1, _⟩
  have v1 := nextV_rng c
  have v2 := nextV_rng (nextS c)
  repeat' (first | with_reducible apply andAll_cons | with_reducible apply andAll_nil | (with_reducible apply Cf.mk; kernel_rfl) | apply And.intro | intro _ | exact True.intro | apply Lf.mk)
  all_goals (try simp only [cur_eta, List.length_cons, List.length_nil, Nat.zero_add, Nat.reduceAdd, Int.cast_ofNat_Int])
  all_goals (try simp only [Bool.not_eq_true', Bool.not_eq_false', Bool.not_not, decide_eq_true_eq, decide_eq_false_iff_not, beq_iff_eq, bne_iff_ne, beq_eq_false_iff_ne, bne_eq_false_iff_eq, ne_eq, Bool.and_eq_true, Bool.and_eq_false_iff, Bool.or_eq_true, Bool.or_eq_false_iff, Int.toNat_natCast, Nat.zero_add, Int.ofNat_lt, Int.ofNat_le, List.length_cons, List.length_nil, List.drop_zero, List.take_length] at *)
  all_goals first
    | (simp only [pickS_r, nextS_r]; exact ⟨100000, rfl⟩) | exact ⟨100000, rfl⟩
    | exact h1.le (by decide)
    | exact next_at h1
    | omega
    | (rw [pickV_1 (by assumption)]; done)
    | (rw [pickV_2 (by assumption) (by assumption)]; done)
    | (rw [pickV_3 (by assumption) (by assumption)]; done)
    | (rw [pickS_1 (by assumption)]; done)
    | exact (pickS_2 (by assumption) (by assumption)).symm
    | (rw [pickS_3 (by assumption) (by assumption)]; done)
    | trace_state
noncomputable def s_cur_one : Sig := ⟨78, [.cell 93 .cur, .val NI], [.val .bool], fun ((c : Cur), (n : Int), _) => ⟨[AtOk 2 c], (pickV c n == 0, ()), (pickS c n, ())⟩⟩
theorem ok_cur_one : GSpec Tryz.prog s_cur_one := by
  refine fn_known tab_ok fol (Known.nil.cons ok_cur_pick (by kernel_rfl)) (by decide) Tryz.func78 ?_
  rintro ⟨(c : Cur), (n : Int), ⟨⟩⟩ hl ⟨h1, _⟩
  repeat' (first | with_reducible apply andAll_cons | with_reducible apply andAll_nil | (with_reducible apply Cf.mk; kernel_rfl) | apply And.intro | intro _ | exact True.intro | apply Lf.mk)
  all_goals (try simp only [cur_eta, List.length_cons, List.length_nil, Nat.zero_add, Nat.reduceAdd, Int.cast_ofNat_Int])
  all_goals first | (simp only [pickS_r, nextS_r]; exact ⟨100000, rfl⟩) | exact ⟨100000, rfl⟩ | exact h1 | rfl | trace_state
noncomputable def s_cur_among : Sig := ⟨138, [.cell 93 .cur, .list NI], [.val NI], fun ((c : Cur), (l : List Int), _) => ⟨[AtOk 2 c, 1 ≤ l.length], (amongV c l, ()), (pickS c l.length, ())⟩⟩
theorem ok_cur_among : GSpec Tryz.prog s_cur_among := by
  refine fn_known tab_ok fol (Known.nil.cons ok_cur_pick (by kernel_rfl)) (by decide) Tryz.func138 ?_
  rintro ⟨(c : Cur), (l : List Int), ⟨⟩⟩ ⟨hl, _⟩ ⟨h1, h2, _⟩
  have hl : l.length ≤ 9223372036854775807 := hl
  have v1 := pickV_lt c (n := (l.length : Int)) (by omega)
  repeat' (first | with_reducible apply andAll_cons | with_reducible apply andAll_nil | (with_reducible apply Cf.mk; kernel_rfl) | apply And.intro | intro _ | exact True.intro | apply Lf.mk)
  all_goals (try simp only [cur_eta, List.length_cons, List.length_nil, Nat.zero_add, Nat.reduceAdd, Int.cast_ofNat_Int])
  all_goals first | (simp only [pickS_r, nextS_r]; exact ⟨100000, rfl⟩) | exact ⟨100000, rfl⟩ | exact h1 | omega | rfl | (unfold amongV; rfl) | trace_state
end Go.Vx
namespace Go.Vx
open Go Go.Proofs
set_option maxRecDepth 100000
set_option linter.unusedSimpArgs false
set_option linter.unusedVariables false

noncomputable def s_cur_unitRat : Sig := ⟨187, [.cell 93 .cur], [.val .rat], fun ((c : Cur), _) => ⟨[AtOk 6 c], (uniV c, ()), (uniS c, ())⟩⟩
theorem ok_cur_unitRat : GSpec Tryz.prog s_cur_unitRat := by
  refine fn_known tab_ok fol (((Known.nil.cons ok_cur_pick (by kernel_rfl)).cons ok_cur_among (by kernel_rfl)).cons ok_spec_raMake (by kernel_rfl)) (by decide) Tryz.func187 ?_
  rintro ⟨(c : Cur), ⟨⟩⟩ hl ⟨h1, _⟩
  have v1 := pickV_lt c (n := 60) (by omega)
  have v2 := uniD_rng c
  have v3 := pickV_lt (uniS1 c) (n := uniD c + 1) (by omega)
  have e1 : uniD c = amongV (pickS c 60) [1, 2, 3, 4, 5, 7, 8, 12, 16, 1 + pickV c 60] := by unfold uniD; rfl
  have e2 : uniV c = (lowRt (pickV (uniS1 c) (uniD c + 1)) (uniD c)).1 := by unfold uniV; rfl
  have e3 : uniS1 c = pickS (pickS c 60) 10 := rfl
  repeat' (first | with_reducible apply andAll_cons | with_reducible apply andAll_nil | (with_reducible apply Cf.mk; kernel_rfl) | apply And.intro | intro _ | exact True.intro | apply Lf.mk)
  all_goals (try simp only [cur_eta, List.length_cons, List.length_nil, Nat.zero_add, Nat.reduceAdd, Int.cast_ofNat_Int])
  all_goals (try simp only [← e1, ← e3])
  all_goals first
    | (simp only [anyS_r, anyS1_r, ratS_r, ratS1_r, uniS_r, uniS1_r, ordS_r, pickS_r, nextS_r]; exact ⟨100000, rfl⟩) | exact ⟨100000, rfl⟩ | exact h1.le (by decide) | exact (pick_at h1).le (by decide) | exact pick_at (pick_at h1)
    | (show 1 ≤ List.length _; simp; done) | decide | omega | exact e2.symm | exact (uniS_eq c).symm | (show inI64 _; unfold inI64; omega) | trace_state
noncomputable def s_cur_gridRat : Sig := ⟨137, [.cell 93 .cur, .val NI], [.val .rat], fun ((c : Cur), (n : Int), _) => ⟨[AtOk 2 c, 1 ≤ n, n ≤ 100000], (griV c n, ()), (pickS c (n + 1), ())⟩⟩
theorem ok_cur_gridRat : GSpec Tryz.prog s_cur_gridRat := by
  refine fn_known tab_ok fol ((Known.nil.cons ok_cur_pick (by kernel_rfl)).cons ok_spec_raMake (by kernel_rfl)) (by decide) Tryz.func137 ?_
  rintro ⟨(c : Cur), (n : Int), ⟨⟩⟩ hl ⟨h1, h2, h3, _⟩
  have v3 := pickV_lt c (n := n + 1) (by omega)
  have e2 : griV c n = (lowRt (pickV c (n + 1)) n).1 := by unfold griV; rfl
  repeat' (first | with_reducible apply andAll_cons | with_reducible apply andAll_nil | (with_reducible apply Cf.mk; kernel_rfl) | apply And.intro | intro _ | exact True.intro | apply Lf.mk)
  all_goals (try simp only [cur_eta, List.length_cons, List.length_nil, Nat.zero_add, Nat.reduceAdd, Int.cast_ofNat_Int])
  all_goals first
    | (simp only [anyS_r, anyS1_r, ratS_r, ratS1_r, uniS_r, uniS1_r, ordS_r, pickS_r, nextS_r]; exact ⟨100000, rfl⟩) | exact ⟨100000, rfl⟩ | exact h1.le (by decide) | exact (pick_at h1).le (by decide)
    | omega | exact e2.symm | rfl | (show inI64 _; unfold inI64; omega) | trace_state
noncomputable def s_cur_rat : Sig := ⟨203, [.cell 93 .cur], [.val .rat], fun ((c : Cur), _) => ⟨[AtOk 12 c], (ratW c, ()), (ratS c, ())⟩⟩
theorem ok_cur_rat : GSpec Tryz.prog s_cur_rat := by
  refine fn_known tab_ok fol ((((Known.nil.cons ok_cur_pick (by kernel_rfl)).cons ok_cur_among (by kernel_rfl)).cons ok_spec_raMake (by kernel_rfl)).cons ok_spec_raInt (by kernel_rfl)) (by decide) Tryz.func203 ?_
  rintro ⟨(c : Cur), ⟨⟩⟩ hl ⟨h1, _⟩
  have v1 := pickV_lt c (n := 41) (by omega)
  have v2 := pickV_lt (pickS c 41) (n := 2001) (by omega)
  have v3 := pickV_lt (ratS1 c) (n := 20) (by omega)
  have v4 := pickV_lt (pickS (ratS1 c) 20) (n := 1000) (by omega)
  have n1 := ratN_rng c
  have n2 := ratE_rng c
  have e1 : ratN c = amongV (pickS (pickS c 41) 2001) [0, 1, 2, 3, -1, -5, pickV c 41 - 20, pickV (pickS c 41) 2001 - 1000, 1000000000, -1000000000] := by unfold ratN; rfl
  have e3 : ratS1 c = pickS (pickS (pickS c 41) 2001) 10 := rfl
  have e2 : ratE c = amongV (pickS (pickS (ratS1 c) 20) 1000) [1, 2, 3, 4, 8, 7, 1 + pickV (ratS1 c) 20, 1 + pickV (pickS (ratS1 c) 20) 1000, 1000000000, 999999999] := by unfold ratE; rfl
  repeat' (first | with_reducible apply andAll_cons | with_reducible apply andAll_nil | (with_reducible apply Cf.mk; kernel_rfl) | apply And.intro | intro _ | exact True.intro | apply Lf.mk)
  all_goals (try simp only [cur_eta, List.length_cons, List.length_nil, Nat.zero_add, Nat.reduceAdd, Int.cast_ofNat_Int])
  all_goals (try simp only [← e1, ← e3])
  all_goals (try simp only [← e2])
  all_goals first
    | (simp only [anyS_r, anyS1_r, ratS_r, ratS1_r, uniS_r, uniS1_r, ordS_r, pickS_r, nextS_r]; exact ⟨100000, rfl⟩) | exact ⟨100000, rfl⟩ | exact h1.le (by decide) | exact (pick_at h1).le (by decide) | exact (pick_at (pick_at h1)).le (by decide) | exact (pick_at (pick_at (pick_at h1))).le (by decide)
    | exact (pick_at (pick_at (pick_at (pick_at h1)))).le (by decide) | exact (pick_at (pick_at (pick_at (pick_at (pick_at h1))))).le (by decide)
    | (show 1 ≤ List.length _; simp; done) | decide | omega | exact (ratS_eq c).symm | (show inI64 _; unfold inI64; omega)
    | (rename_i hb
       simp only [cur_eta, List.length_cons, List.length_nil, Nat.zero_add, Nat.reduceAdd, Int.cast_ofNat_Int, ← e1, ← e3] at hb
       simp only [← e2] at hb
       first | (rw [ratW_t (by simpa using hb)]; done) | (rw [ratW_f (by simpa using hb)]; done))
    | trace_state
noncomputable def s_cur_anyRat : Sig := ⟨139, [.cell 93 .cur], [.val .rat], fun ((c : Cur), _) => ⟨[AtOk 18 c], (anyV c, ()), (anyS c, ())⟩⟩
theorem ok_cur_anyRat : GSpec Tryz.prog s_cur_anyRat := by
  refine fn_known tab_ok fol (((Known.nil.cons ok_cur_rat (by kernel_rfl)).cons ok_cur_pick (by kernel_rfl)).cons ok_cur_among (by kernel_rfl)) (by decide) Tryz.func139 ?_
  rintro ⟨(c : Cur), ⟨⟩⟩ hl ⟨h1, _⟩
  have e1 : anyS1 c = pickS (ratS c) 40 := rfl
  have h2 : AtOk 4 (anyS1 c) := pick_at (rat_at h1)
  repeat' (first | with_reducible apply andAll_cons | with_reducible apply andAll_nil | (with_reducible apply Cf.mk; kernel_rfl) | apply And.intro | intro _ | exact True.intro | apply Lf.mk)
  all_goals (try simp only [cur_eta, List.length_cons, List.length_nil, Nat.zero_add, Nat.reduceAdd, Int.cast_ofNat_Int])
  all_goals (try simp only [← e1])
  all_goals (try simp only [Bool.not_eq_true', Bool.not_eq_false', Bool.not_not, decide_eq_true_eq, decide_eq_false_iff_not, beq_iff_eq, bne_iff_ne, beq_eq_false_iff_ne, bne_eq_false_iff_eq, ne_eq, Bool.and_eq_true, Bool.and_eq_false_iff, Bool.or_eq_true, Bool.or_eq_false_iff, Int.toNat_natCast, Nat.zero_add, Int.ofNat_lt, Int.ofNat_le, List.length_cons, List.length_nil, List.drop_zero, List.take_length] at *)
  all_goals first
    | (simp only [anyS_r, anyS1_r, ratS_r, ratS1_r, uniS_r, uniS1_r, ordS_r, pickS_r, nextS_r]; exact ⟨100000, rfl⟩) | exact ⟨100000, rfl⟩ | exact h1.le (by decide) | exact (rat_at h1).le (by decide) | exact h2.le (by decide) | exact pick_at h2
    | (show 1 ≤ List.length _; simp; done) | decide
    | (rw [(any_0 (by assumption)).1]; done) | exact (any_0 (by assumption)).2.symm
    | (rw [(any_1 (by assumption)).1]; done) | exact (any_1 (by assumption)).2.symm
    | (rw [(any_2 (by assumption)).1]; done) | exact (any_2 (by assumption)).2.symm
    | (rw [(any_3 (by assumption) (by assumption) (by assumption)).1]; done) | exact (any_3 (by assumption) (by assumption) (by assumption)).2.symm
    | omega | trace_state
end Go.Vx
namespace Go.Vx
open Go Go.Proofs
set_option maxRecDepth 100000
set_option linter.unusedSimpArgs false
set_option linter.unusedVariables false

/-- the cursor has gone on, by at most k -/
structure Adv (k : Nat) (c d : Cur) : Prop where
  r : d.r = c.r
  lo : c.at_ ≤ d.at_
  hi : d.at_ ≤ c.at_ + (k : Int)
theorem Adv.refl (k : Nat) (c : Cur) : Adv k c c := ⟨rfl, Int.le_refl _, by omega⟩
theorem Adv.at_ {k m : Nat} {c d : Cur} (h : Adv k c d) (ha : AtOk (m + k) c) : AtOk m d := ⟨by have := ha.lo; have := h.lo; omega, by have := ha.hi; have := h.hi; omega⟩
theorem Adv.trans {i j k : Nat} {c d e : Cur} (h : Adv i c d) (h2 : Adv j d e) (hk : i + j ≤ k) : Adv k c e := ⟨h2.r.trans h.r, Int.le_trans h.lo h2.lo, by have := h.hi; have := h2.hi; omega⟩
theorem Adv.le {i k : Nat} {c d : Cur} (h : Adv i c d) (hk : i ≤ k) : Adv k c d := ⟨h.r, h.lo, by have := h.hi; omega⟩
/-- of the next draw -/
theorem Adv.of {i k j : Nat} {c d : Cur} {S : Cur → Cur} (h : Adv i c d) (hr : ∀ c, Adv j c (S c)) (hk : i + j ≤ k) : Adv k c (S d) := h.trans (hr d) hk
theorem next_adv (c : Cur) : Adv 1 c (nextS c) := ⟨nextS_r c, by rw [nextS_eq]; show c.at_ ≤ c.at_ + 1; omega, by rw [nextS_eq]; exact Int.le_refl _⟩
theorem pick_adv (c : Cur) (n : Int) : Adv 2 c (pickS c n) := by
  unfold pickS
  split
  · exact Adv.refl _ _
  · split
    · exact (next_adv _).trans (next_adv _) (by decide)
    · exact (next_adv _).le (by decide)
theorem ord_adv (c : Cur) : Adv 4 c (ordS c) := by rw [ordS_eq]; exact (pick_adv _ _).trans (pick_adv _ _) (by decide)
theorem uni_adv (c : Cur) : Adv 6 c (uniS c) := by rw [uniS_eq]; unfold uniS1; exact ((pick_adv _ _).trans (pick_adv _ _) (k := 4) (by decide)).trans (pick_adv _ _) (by decide)
theorem rat_adv (c : Cur) : Adv 12 c (ratS c) := by
  rw [ratS_eq]; unfold ratS1
  exact ((((((pick_adv _ _).trans (pick_adv _ _) (k := 4) (by decide)).trans (pick_adv _ _) (k := 6) (by decide)).trans (pick_adv _ _) (k := 8) (by decide)).trans (pick_adv _ _) (k := 10) (by decide)).trans (pick_adv _ _) (by decide))
theorem any_adv (c : Cur) : Adv 18 c (anyS c) := by
  have h4 : Adv 14 c (pickS (ratS c) 40) := (rat_adv c).trans (pick_adv _ _) (by decide)
  unfold anyS anyS1
  split
  · exact h4.trans (pick_adv _ _) (by decide)
  · split
    · exact h4.trans (pick_adv _ _) (by decide)
    · split
      · exact (h4.trans (pick_adv _ _) (k := 16) (by decide)).trans (pick_adv _ _) (by decide)
      · exact h4.le (by decide)

theorem adv_next {k : Nat} {c d : Cur} (h : Adv k c d) : Adv (k + 1) c (nextS d) := h.trans (next_adv d) (Nat.le_refl _)
theorem adv_pick {k : Nat} {c d : Cur} {n : Int} (h : Adv k c d) : Adv (k + 2) c (pickS d n) := h.trans (pick_adv d n) (Nat.le_refl _)
theorem adv_ord {k : Nat} {c d : Cur} (h : Adv k c d) : Adv (k + 4) c (ordS d) := h.trans (ord_adv d) (Nat.le_refl _)
theorem adv_uni {k : Nat} {c d : Cur} (h : Adv k c d) : Adv (k + 6) c (uniS d) := h.trans (uni_adv d) (Nat.le_refl _)
theorem adv_rat {k : Nat} {c d : Cur} (h : Adv k c d) : Adv (k + 12) c (ratS d) := h.trans (rat_adv d) (Nat.le_refl _)
theorem adv_any {k : Nat} {c d : Cur} (h : Adv k c d) : Adv (k + 18) c (anyS d) := h.trans (any_adv d) (Nat.le_refl _)
theorem rawIn_adv {C : List (Nat × CloE)} {k : Nat} {c d : Cur} (h : Adv k c d) (h2 : RawIn C c.r) : RawIn C d.r := by rw [h.r]; exact h2
/-- a cursor as the evaluator holds it -/
abbrev cuB (c : Cur) : Ob := .box 93 [.raw c.r, .num .i64 c.at_, .num .u64 c.sd]
theorem start_go {α : Type} {Φ F : α → Prop} (x : α) (hf : F x) (h : Φ x) : ∃ x, Φ x ∧ F x := ⟨x, h, hf⟩
theorem round_go {α : Type} {Φ F : α → Prop} {μ : α → Nat} {m : Nat} (x : α) (hf : F x) (hm : μ x < m) (h : Φ x) : ∃ x, Φ x ∧ μ x < m ∧ F x := ⟨x, h, hm, hf⟩
theorem among_rng (c : Cur) {l : List Int} (lo hi : Int) (h : (l.all fun x => decide (lo ≤ x) && decide (x ≤ hi)) = true) (hl : 1 ≤ l.length) : lo ≤ amongV c l ∧ amongV c l ≤ hi :=
  among_all (p := fun x => lo ≤ x ∧ x ≤ hi) (fun x hx => by have := List.all_eq_true.1 h x hx; simpa using this) hl
theorem unit_good_ {x : Rt} (h : unitRt x = true) : goodRt x = true := (unitRt_iff.1 h).1
theorem pk1 {c : Cur} {n a b : Int} (hn : 1 ≤ n) (h : a < b) : a < b + pickV c n := by have := pickV_lt c hn; omega
theorem pk2 {c : Cur} {n a b : Int} (hn : 1 ≤ n) (h : b + n ≤ a) : b + pickV c n ≤ a := by have := pickV_lt c hn; omega
theorem pk3 {c : Cur} {n a b : Int} (hn : 1 ≤ n) (h : a ≤ b) : a ≤ b + pickV c n := by have := pickV_lt c hn; omega
theorem pk4 {c : Cur} {n a : Int} (hn : 1 ≤ n) (h : a < 0) : a < pickV c n := by have := pickV_lt c hn; omega
theorem pk5 {c : Cur} {n a : Int} (hn : 1 ≤ n) (h : n ≤ a) : pickV c n ≤ a := by have := pickV_lt c hn; omega
theorem cz_at (r : Raw) : AtOk 100000 ⟨r, 0, 0⟩ := ⟨by show (0 : Int) ≤ 0; omega, by show (0 : Int) + _ ≤ _; omega⟩
theorem rt_eta_ (x : Rt) : (⟨x.num, x.den⟩ : Rt) = x := rfl
theorem some_end {E : Env} {rv : List ResultVar} {ks : List AK} {rs : List RK} {Q : RKs rs → AKo ks → Prop} {st : St} (res : RKs rs) (out : AKo ks) (h : endK E rv ks rs res out st) (q : Q res out) : ∃ res out, Q res out ∧ endK E rv ks rs res out st := ⟨res, out, q, h⟩

/-- A method of a cursor. -/
theorem some_c {P : Program} {l : List (Nat × Ty)} (ht : tabB P (tabT l) l = true) (hm : P.follows .mixedOrders = true) {Γ : List Sig} (hΓ : Known P Γ) {f t : Nat} {ks : List AK} {rs : List RK} {fn : Func} (hks : (AK.cell t .cur :: ks).length ≤ 50000) (hf : P.funcs[f]? = some fn)
    (K : Nat) (pre : AKs ks → List Prop) (Q : AKs ks → RKs rs → Prop) (hO : ∀ a b : AKo ks, a = b)
    (hv : ∀ (c : Cur) (y : AKs ks), lenOk ks y → AtOk K c → andL (pre y) → vcSome (tabT l) Γ fn f (.cell t .cur :: ks) rs (c, y) fun R O => Q y R ∧ Adv K c O.1) :
    ∃ (V : Cur → AKs ks → RKs rs) (S : Cur → AKs ks → Cur), (∀ c y, lenOk ks y → AtOk K c → andL (pre y) → Q y (V c y)) ∧ (∀ c y, Adv K c (S c y)) ∧
      GSpec P ⟨f, .cell t .cur :: ks, rs, fun x => ⟨AtOk K x.1 :: pre x.2, V x.1 x.2, (S x.1 x.2, AKo.dflt ks)⟩⟩ := by
  obtain ⟨R, O, h, g⟩ := fn_some ht hm hΓ (f := f) hks hf (pre := fun x => AtOk K x.1 :: pre x.2) (Q := fun x R O => Q x.2 R ∧ Adv K x.1 O.1) (fun x hl hp => hv x.1 x.2 hl hp.1 hp.2)
  have dec : ∀ (c : Cur) (y : AKs ks), ∃ d, Adv K c d ∧ (lenOk ks y → AtOk K c → andL (pre y) → d = (O (c, y)).1) := by
    intro c y
    by_cases hc : lenOk ks y ∧ AtOk K c ∧ andL (pre y)
    · exact ⟨_, (h (c, y) hc.1 ⟨hc.2.1, hc.2.2⟩).2, fun _ _ _ => rfl⟩
    · exact ⟨c, Adv.refl _ _, fun h1 h2 h3 => (hc ⟨h1, h2, h3⟩).elim⟩
  refine ⟨fun c y => R (c, y), fun c y => Classical.choose (dec c y), fun c y h1 h2 h3 => (h (c, y) h1 ⟨h2, h3⟩).1, fun c y => (Classical.choose_spec (dec c y)).1, ?_⟩
  intro x vs w rb cb ob ha hr hn hb hp
  obtain ⟨c, y⟩ := x
  obtain ⟨_, _, hl, _⟩ := pars_ok (P := P) (i := 0) (ks := .cell t .cur :: ks) (by omega) ha hn
  have h1 := g (c, y) vs w rb cb ob ha hr hn hb hp
  have e : Classical.choose (dec c y) = (O (c, y)).1 := (Classical.choose_spec (dec c y)).2 hl hp.1 hp.2
  have e2 : (Classical.choose (dec c y), AKo.dflt ks) = O (c, y) := by
    rw [e]
    exact Prod.ext rfl (hO _ _)
  dsimp only at h1 ⊢
  rw [e2]
  exact h1
end Go.Vx
