/- Cursors over bytes: what they draw. -/
import Derived.Test.YtalgocopemmelaaGreatDoorVpBase
namespace Go.Vx
open Go
set_option maxRecDepth 100000
set_option linter.unusedSimpArgs false
set_option linter.unusedVariables false

/-- the seed behind a draw, and what is drawn -/
@[irreducible] def nextB (c : Cur) : Int := if c.at_ < (c.r.bs.length : Int) then c.r.bs.getD c.at_.toNat 0 else 0
@[irreducible] def nextSd (c : Cur) : Int := IntKind.u64.wrap (IntKind.u64.wrap (IntKind.u64.wrap (c.sd * 6364136223846793005) + nextB c) + 1442695040888963407)
@[irreducible] def nextV (c : Cur) : Int := if c.at_ < (c.r.bs.length : Int) then nextB c else Go.RowKit.wrap64 (bits BinOp.and IntKind.u64 (nextSd c / 1099511627776) 255)
@[irreducible] def nextS (c : Cur) : Cur := ⟨c.r, c.at_ + 1, nextSd c⟩
theorem nextS_r (c : Cur) : (nextS c).r = c.r := by unfold nextS; rfl
theorem nextS_eq (c : Cur) : nextS c = ⟨c.r, c.at_ + 1, nextSd c⟩ := by unfold nextS; rfl
theorem getD_mem {α : Type} {l : List α} {d : α} {p : α → Prop} (h : ∀ x ∈ l, p x) (hd : p d) (i : Nat) : p (l.getD i d) := by
  rw [List.getD_eq_getElem?_getD]
  rcases Nat.lt_or_ge i l.length with h1 | h1
  · rw [List.getElem?_eq_getElem h1]; exact h _ (List.getElem_mem h1)
  · rw [List.getElem?_eq_none h1]; exact hd
theorem nextV_rng (c : Cur) : 0 ≤ nextV c ∧ nextV c ≤ 255 := by
  unfold nextV
  split
  · unfold nextB
    split
    · exact getD_mem (p := fun (b : Int) => 0 ≤ b ∧ b ≤ 255) c.r.hb ⟨by omega, by omega⟩ _
    · omega
  · have h0 : 0 ≤ nextSd c ∧ nextSd c < 18446744073709551616 := by unfold nextSd; simp only [IntKind.wrap, IntKind.bits, IntKind.signed]; simp; omega
    obtain ⟨n, hn⟩ : ∃ n : Nat, nextSd c / 1099511627776 = n := ⟨(nextSd c / 1099511627776).toNat, by omega⟩
    rw [hn]
    obtain ⟨m, hm, e⟩ : ∃ m : Nat, m ≤ 255 ∧ bits BinOp.and IntKind.u64 (n : Int) 255 = m := by
      have hle : (BitVec.ofInt 64 (n : Int) &&& BitVec.ofInt 64 255).toNat ≤ 255 := by
        rw [BitVec.toNat_and]
        exact Nat.le_trans Nat.and_le_right (by decide)
      refine ⟨_, hle, ?_⟩
      have : bits BinOp.and IntKind.u64 (n : Int) 255 = IntKind.u64.wrap ((BitVec.ofInt 64 (n : Int) &&& BitVec.ofInt 64 255).toNat : Int) := rfl
      rw [this]
      generalize (BitVec.ofInt 64 (n : Int) &&& BitVec.ofInt 64 255).toNat = q at hle
      simp only [IntKind.wrap, IntKind.bits, IntKind.signed]
      simp
      omega
    rw [e]
    unfold Go.RowKit.wrap64
    omega

@[irreducible] def pickV (c : Cur) (n : Int) : Int := if n ≤ 1 then 0 else if 200 < n then (nextV c * 256 + nextV (nextS c)).tmod n else (nextV c).tmod n
@[irreducible] def pickS (c : Cur) (n : Int) : Cur := if n ≤ 1 then c else if 200 < n then nextS (nextS c) else nextS c
theorem pickS_r (c : Cur) (n : Int) : (pickS c n).r = c.r := by
  unfold pickS
  split
  · rfl
  · split
    · rw [nextS_r, nextS_r]
    · rw [nextS_r]
theorem pickV_1 {c : Cur} {n : Int} (h : n ≤ 1) : pickV c n = 0 := by unfold pickV; rw [if_pos h]
theorem pickV_2 {c : Cur} {n : Int} (h : ¬ n ≤ 1) (h2 : 200 < n) : pickV c n = (nextV c * 256 + nextV (nextS c)).tmod n := by unfold pickV; rw [if_neg h, if_pos h2]
theorem pickV_3 {c : Cur} {n : Int} (h : ¬ n ≤ 1) (h2 : ¬ 200 < n) : pickV c n = (nextV c).tmod n := by unfold pickV; rw [if_neg h, if_neg h2]
theorem pickS_1 {c : Cur} {n : Int} (h : n ≤ 1) : pickS c n = c := by unfold pickS; rw [if_pos h]
theorem pickS_2 {c : Cur} {n : Int} (h : ¬ n ≤ 1) (h2 : 200 < n) : pickS c n = nextS (nextS c) := by unfold pickS; rw [if_neg h, if_pos h2]
theorem pickS_3 {c : Cur} {n : Int} (h : ¬ n ≤ 1) (h2 : ¬ 200 < n) : pickS c n = nextS c := by unfold pickS; rw [if_neg h, if_neg h2]
theorem pickV_rng (c : Cur) (n : Int) : 0 ≤ pickV c n ∧ (pickV c n < n ∨ pickV c n = 0) := by
  have h1 := nextV_rng c
  have h2 := nextV_rng (nextS c)
  unfold pickV
  split
  · omega
  · split
    · exact ⟨Int.tmod_nonneg _ (by omega), .inl (Int.tmod_lt_of_pos _ (by omega))⟩
    · exact ⟨Int.tmod_nonneg _ (by omega), .inl (Int.tmod_lt_of_pos _ (by omega))⟩
theorem pickV_lt (c : Cur) {n : Int} (h : 1 ≤ n) : 0 ≤ pickV c n ∧ pickV c n < n := by
  have := pickV_rng c n
  omega

theorem cur_eta (c : Cur) : (⟨c.r, c.at_, c.sd⟩ : Cur) = c := rfl
/-- m draws are left -/
structure AtOk (m : Nat) (c : Cur) : Prop where
  lo : 0 ≤ c.at_
  hi : c.at_ + (m : Int) ≤ 4611686018427387904
theorem AtOk.le {m k : Nat} {c : Cur} (h : AtOk m c) (hk : k ≤ m) : AtOk k c := ⟨h.lo, by have := h.hi; omega⟩
theorem next_at {m : Nat} {c : Cur} (h : AtOk (m + 1) c) : AtOk m (nextS c) := by
  rw [nextS_eq]
  exact ⟨by have := h.lo; show 0 ≤ c.at_ + 1; omega, by have := h.hi; show c.at_ + 1 + (m : Int) ≤ _; omega⟩
theorem pick_at {m : Nat} {c : Cur} {n : Int} (h : AtOk (m + 2) c) : AtOk m (pickS c n) := by
  unfold pickS
  split
  · exact h.le (by omega)
  · split
    · exact next_at (next_at h)
    · exact (next_at h).le (by omega)
/-- an element of a list -/
@[irreducible] def amongV (c : Cur) (l : List Int) : Int := getA 0 l (pickV c l.length).toNat
theorem getA_all {α : Type} {d : α} {p : α → Prop} : ∀ {l : List α} {i : Nat}, (∀ x ∈ l, p x) → i < l.length → p (getA d l i)
  | x :: r, 0, h, _ => h x List.mem_cons_self
  | x :: r, i + 1, h, hi => getA_all (l := r) (i := i) (fun y hy => h y (List.mem_cons_of_mem _ hy)) (by simpa using hi)
  | [], _, _, hi => by simp at hi
theorem among_all {c : Cur} {l : List Int} {p : Int → Prop} (h : ∀ x ∈ l, p x) (hl : 1 ≤ l.length) : p (amongV c l) := by
  have := pickV_lt c (n := (l.length : Int)) (by omega)
  unfold amongV
  exact getA_all h (by omega)

@[irreducible] noncomputable def ordV (c : Cur) : Int := amongV (pickS c 2) [1, 2, 3, 5, 8, 13, 20, amongV c [0, 21]]
@[irreducible] def ordS (c : Cur) : Cur := pickS (pickS c 2) 8
theorem ordS_eq (c : Cur) : ordS c = pickS (pickS c 2) 8 := by unfold ordS; rfl
theorem ordS_r (c : Cur) : (ordS c).r = c.r := by rw [ordS_eq, pickS_r, pickS_r]
theorem ord_at {m : Nat} {c : Cur} (h : AtOk (m + 4) c) : AtOk m (ordS c) := by rw [ordS_eq]; exact pick_at (pick_at h)

@[irreducible] noncomputable def uniD (c : Cur) : Int := amongV (pickS c 60) [1, 2, 3, 4, 5, 7, 8, 12, 16, 1 + pickV c 60]
def uniS1 (c : Cur) : Cur := pickS (pickS c 60) 10
theorem uniS1_r (c : Cur) : (uniS1 c).r = c.r := by unfold uniS1; rw [pickS_r, pickS_r]
@[irreducible] noncomputable def uniV (c : Cur) : Rt := (lowRt (pickV (uniS1 c) (uniD c + 1)) (uniD c)).1
@[irreducible] noncomputable def uniS (c : Cur) : Cur := pickS (uniS1 c) (uniD c + 1)
theorem uniS_eq (c : Cur) : uniS c = pickS (uniS1 c) (uniD c + 1) := by unfold uniS; rfl
theorem uniS_r (c : Cur) : (uniS c).r = c.r := by rw [uniS_eq]; unfold uniS1; rw [pickS_r, pickS_r, pickS_r]
theorem uni_at {m : Nat} {c : Cur} (h : AtOk (m + 6) c) : AtOk m (uniS c) := by rw [uniS_eq]; exact pick_at (pick_at (pick_at h))
theorem uniD_rng (c : Cur) : 1 ≤ uniD c ∧ uniD c ≤ 60 := by
  have := pickV_lt c (n := 60) (by omega)
  unfold uniD
  refine among_all (p := fun x => 1 ≤ x ∧ x ≤ 60) (fun x hx => ?_) (by simp)
  simp only [List.mem_cons, List.not_mem_nil, or_false] at hx
  omega

@[irreducible] noncomputable def griV (c : Cur) (n : Int) : Rt := (lowRt (pickV c (n + 1)) n).1

@[irreducible] noncomputable def ratN (c : Cur) : Int := amongV (pickS (pickS c 41) 2001) [0, 1, 2, 3, -1, -5, pickV c 41 - 20, pickV (pickS c 41) 2001 - 1000, 1000000000, -1000000000]
def ratS1 (c : Cur) : Cur := pickS (pickS (pickS c 41) 2001) 10
theorem ratS1_r (c : Cur) : (ratS1 c).r = c.r := by unfold ratS1; simp only [pickS_r]
@[irreducible] noncomputable def ratE (c : Cur) : Int := amongV (pickS (pickS (ratS1 c) 20) 1000) [1, 2, 3, 4, 8, 7, 1 + pickV (ratS1 c) 20, 1 + pickV (pickS (ratS1 c) 20) 1000, 1000000000, 999999999]
@[irreducible] noncomputable def ratW (c : Cur) : Rt := bif (lowRt (ratN c) (ratE c)).2 then (lowRt (ratN c) (ratE c)).1 else ⟨1, 1⟩
theorem ratW_t {c : Cur} (h : (lowRt (ratN c) (ratE c)).2 = true) : ratW c = (lowRt (ratN c) (ratE c)).1 := by unfold ratW; rw [h]; rfl
theorem ratW_f {c : Cur} (h : (lowRt (ratN c) (ratE c)).2 = false) : ratW c = ⟨1, 1⟩ := by unfold ratW; rw [h]; rfl
@[irreducible] def ratS (c : Cur) : Cur := pickS (pickS (pickS (ratS1 c) 20) 1000) 10
theorem ratS_eq (c : Cur) : ratS c = pickS (pickS (pickS (ratS1 c) 20) 1000) 10 := by unfold ratS; rfl
theorem ratS_r (c : Cur) : (ratS c).r = c.r := by rw [ratS_eq]; unfold ratS1; simp only [pickS_r]
theorem rat_at {m : Nat} {c : Cur} (h : AtOk (m + 12) c) : AtOk m (ratS c) := by rw [ratS_eq]; exact pick_at (pick_at (pick_at (pick_at (pick_at (pick_at h)))))
theorem ratN_rng (c : Cur) : -1000000000 ≤ ratN c ∧ ratN c ≤ 1000000000 := by
  have h1 := pickV_lt c (n := 41) (by omega)
  have h2 := pickV_lt (pickS c 41) (n := 2001) (by omega)
  unfold ratN
  refine among_all (p := fun x => -1000000000 ≤ x ∧ x ≤ 1000000000) (fun x hx => ?_) (by simp)
  simp only [List.mem_cons, List.not_mem_nil, or_false] at hx
  omega
theorem ratE_rng (c : Cur) : 1 ≤ ratE c ∧ ratE c ≤ 1000000000 := by
  have h1 := pickV_lt (ratS1 c) (n := 20) (by omega)
  have h2 := pickV_lt (pickS (ratS1 c) 20) (n := 1000) (by omega)
  unfold ratE
  refine among_all (p := fun x => 1 ≤ x ∧ x ≤ 1000000000) (fun x hx => ?_) (by simp)
  simp only [List.mem_cons, List.not_mem_nil, or_false] at hx
  omega

/-- which way 'anyRat' goes -/
def anyS1 (c : Cur) : Cur := pickS (ratS c) 40
@[irreducible] noncomputable def anyV (c : Cur) : Rt :=
  if pickV (ratS c) 40 = 0 then ⟨(ratW c).num, amongV (anyS1 c) [0, -1, 1000000001]⟩
  else if pickV (ratS c) 40 = 1 then ⟨amongV (anyS1 c) [1000000001, -1000000001, -9223372036854775808], (ratW c).den⟩
  else if pickV (ratS c) 40 = 2 then ⟨amongV (anyS1 c) [2, 0, -4], amongV (pickS (anyS1 c) 3) [2, 4, 6]⟩
  else ratW c
@[irreducible] def anyS (c : Cur) : Cur :=
  if pickV (ratS c) 40 = 0 then pickS (anyS1 c) 3 else if pickV (ratS c) 40 = 1 then pickS (anyS1 c) 3
  else if pickV (ratS c) 40 = 2 then pickS (pickS (anyS1 c) 3) 3 else anyS1 c
theorem anyS1_r (c : Cur) : (anyS1 c).r = c.r := by unfold anyS1; rw [pickS_r, ratS_r]
theorem anyS_r (c : Cur) : (anyS c).r = c.r := by
  unfold anyS
  split
  · rw [pickS_r, anyS1_r]
  · split
    · rw [pickS_r, anyS1_r]
    · split
      · rw [pickS_r, pickS_r, anyS1_r]
      · rw [anyS1_r]
theorem any_at {m : Nat} {c : Cur} (h : AtOk (m + 18) c) : AtOk m (anyS c) := by
  unfold anyS anyS1
  have h4 : AtOk (m + 4) (pickS (ratS c) 40) := pick_at (rat_at h)
  split
  · exact (pick_at h4).le (by omega)
  · split
    · exact (pick_at h4).le (by omega)
    · split
      · exact pick_at (pick_at h4)
      · exact h4.le (by omega)
theorem any_0 {c : Cur} (h : pickV (ratS c) 40 = 0) : anyV c = ⟨(ratW c).num, amongV (anyS1 c) [0, -1, 1000000001]⟩ ∧ anyS c = pickS (anyS1 c) 3 := by unfold anyV anyS; rw [if_pos h, if_pos h]; exact ⟨rfl, rfl⟩
theorem any_1 {c : Cur} (h : pickV (ratS c) 40 = 1) : anyV c = ⟨amongV (anyS1 c) [1000000001, -1000000001, -9223372036854775808], (ratW c).den⟩ ∧ anyS c = pickS (anyS1 c) 3 := by
  have h0 : ¬ pickV (ratS c) 40 = 0 := by omega
  unfold anyV anyS; rw [if_neg h0, if_neg h0, if_pos h, if_pos h]; exact ⟨rfl, rfl⟩
theorem any_2 {c : Cur} (h : pickV (ratS c) 40 = 2) : anyV c = ⟨amongV (anyS1 c) [2, 0, -4], amongV (pickS (anyS1 c) 3) [2, 4, 6]⟩ ∧ anyS c = pickS (pickS (anyS1 c) 3) 3 := by
  have h0 : ¬ pickV (ratS c) 40 = 0 := by omega
  have h1 : ¬ pickV (ratS c) 40 = 1 := by omega
  unfold anyV anyS; rw [if_neg h0, if_neg h0, if_neg h1, if_neg h1, if_pos h, if_pos h]; exact ⟨rfl, rfl⟩
theorem any_3 {c : Cur} (h0 : ¬ pickV (ratS c) 40 = 0) (h1 : ¬ pickV (ratS c) 40 = 1) (h2 : ¬ pickV (ratS c) 40 = 2) : anyV c = ratW c ∧ anyS c = anyS1 c := by
  unfold anyV anyS; rw [if_neg h0, if_neg h0, if_neg h1, if_neg h1, if_neg h2, if_neg h2]; exact ⟨rfl, rfl⟩
end Go.Vx
