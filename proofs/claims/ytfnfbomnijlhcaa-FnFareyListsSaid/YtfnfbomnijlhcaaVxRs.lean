/- The program's sorting of fractions without repeats. -/
import Derived.Test.YtfnfbomnijlhcaaVxLy
import Derived.Test.YtfnfbomnijlhcaaVxSr
import Derived.Test.YtfnfbomnijlhcaaVxCp
import Derived.Shelf.Lay
import Derived.BigQuiet
namespace Go.Vx
open Go Go.Proofs Go.Shelf Go.RowKit Go.Sort
set_option maxRecDepth 100000
set_option linter.unusedSimpArgs false
set_option linter.unusedVariables false

theorem wrap18 {n : Int} (h : -1000000000000000000 ≤ n ∧ n ≤ 1000000000000000000) : IntKind.i64.wrap n = n := by
  simp only [IntKind.wrap, IntKind.bits, IntKind.signed]; simp; omega

set_option maxHeartbeats 1000000 in
theorem cmp_walk (a b c d : Int) (h1 : -1000000000000000000 ≤ a * d ∧ a * d ≤ 1000000000000000000) (h2 : -1000000000000000000 ≤ c * b ∧ c * b ≤ 1000000000000000000) (W : World) :
    Calls Try.prog 65 #[.agg #[.int .i64 a, .int .i64 b], .agg #[.int .i64 c, .int .i64 d]] W fun e w' => e = .returned (.int .i64 (sgn (a * d - c * b))) ∧ ∃ q os', w' = grow (W.drewN q) os' := by
  have w1 := wrap18 h1
  have w2 := wrap18 h2
  go_enter Try.func65, Try.ntmps65
  go_wp2
  go_quiet (fail)
  go_wp2
  · have e : sgn (a * d - c * b) = -1 := by unfold sgn; rw [if_pos (by omega)]
    rw [e]
    go_ret
    exact ⟨rfl, nq, _, by rw [alloc_eq_grow, alloc_eq_grow, grow_grow]; rfl⟩
  · have e : sgn (a * d - c * b) = 1 := by unfold sgn; rw [if_neg (by omega), if_pos (by omega)]
    rw [e]
    go_ret
    exact ⟨rfl, nq, _, by rw [alloc_eq_grow, alloc_eq_grow, grow_grow]; rfl⟩
  · have e : sgn (a * d - c * b) = 0 := by unfold sgn; rw [if_neg (by omega), if_neg (by omega)]
    rw [e]
    go_ret
    exact ⟨rfl, nq, _, by rw [alloc_eq_grow, alloc_eq_grow, grow_grow]; rfl⟩

theorem cmp_lays (x y : GR) (W : World) : Calls Try.prog 65 #[.agg (encG x).toArray, .agg (encG y).toArray] W fun e w' => e = .returned (.int .i64 (cmpG x y)) ∧ ∃ q os', w' = grow (W.drewN q) os' := by
  obtain ⟨⟨a, b⟩, hx⟩ := x
  obtain ⟨⟨c, d⟩, hy⟩ := y
  exact cmp_walk a b c d (ratmul hx hy) (ratmul hy hx) W

theorem sort_rat {w : World} {e : TypeId} {v : Value} {xs : List Rt} (hg : Gd xs) (hsz : xs.length ≤ 1000000) (ho : w.ownsRow 0 e 2 v xs.length (flat .rat xs)) :
    Calls Try.prog 70 #[v, .func (.func 65) #[] #[]] w fun r w' => r = .returned (.tuple #[]) ∧ ∃ ys : List Rt, ys.Perm xs ∧ (∀ i, i + 1 < ys.length → qR (getA zR ys i) ≤ qR (getA zR ys (i + 1))) ∧
      w'.ownsRow 0 e 2 v ys.length (flat .rat ys) ∧ Kept (fun b => some b = v.ownBlock) w w' :=
  sort_own Try.sortRat Try.isAgg28 Try.sizeOf28 65 (enters_of Try.func65 (by kernel_rfl) rfl) cmp_lays hg hsz ho

noncomputable def s_impl_rising : Sig := ⟨58, [.own 28 .rat], [.list 28 .rat], fun ((l : List Rt), _) => ⟨[∀ x ∈ l, goodRt x = true, l.length ≤ 1000000], (putsL [] l, ()), ()⟩⟩
set_option maxHeartbeats 1000000 in
theorem rising_walk (v : Value) (xs : List Rt) (w : World) (hg : Gd xs) (hsz : xs.length ≤ 1000000) (ho : w.ownsRow 0 28 2 v xs.length (flat .rat xs)) :
    Calls Try.prog 58 #[v] w fun e w' => ∃ u, e = .returned u ∧ w'.ownsRow 0 28 2 u (putsL [] xs).length (flat .rat (putsL [] xs)) ∧
      (∀ b ∈ u.ownBlock.toList, w.heap.size ≤ b ∨ b ∈ v.ownBlock.toList) ∧ Kept (fun b => b ∈ v.ownBlock.toList) w w' := by
  have c1 := sort_rat hg hsz ho
  have c2 : ∀ (ys : List Rt) (w1 : World), w1.ownsRow 0 28 2 v ys.length (flat .rat ys) → Calls Try.prog 71 #[v] w1 fun e w' => ∃ us l, e = .returned (packV us) ∧ RessOk w' [.list 28 .rat] (kpL ys ys.length, ()) us l ∧ l.Nodup ∧ (∀ b ∈ l, w1.heap.size ≤ b ∨ b ∈ v.ownBlock.toList) ∧ True ∧ Kept (fun b => b ∈ ([] : List Nat) ∨ b ∈ v.ownBlock.toList) w1 w' := fun ys w1 h1 => by
    have hn : v.ownBlock.toList.Nodup := by cases v.ownBlock <;> simp
    exact ok_lib_CompactRat (ys, ()) [v] w1 [] [] v.ownBlock.toList ⟨[], v.ownBlock.toList, [], [], ⟨h1, rfl, rfl⟩, ⟨rfl, rfl⟩, rfl, by simp⟩ trivial (by simpa using hn) (fun b _ h => by cases h) trivial
  go_enter Try.func58, Try.ntmps58
  go_wp2_with fail
  refine c1.mono ?_
  rintro r w1 ⟨rfl, ys, h1, h2, h3, h4⟩
  have c3 := c2 ys w1 h3
  rw [kpL_puts (fun x hx => hg x (h1.mem_iff.1 hx)) h2 h1] at c3
  go_wp2_with fail
  refine c3.mono ?_
  rintro r w2 ⟨us, l, rfl, k1, k2, k3, -, k5⟩
  obtain ⟨u, rfl⟩ : ∃ u, us = [u] := by
    match us, k1 with
    | [u], _ => exact ⟨u, rfl⟩
    | [], h => exact h.elim
    | _ :: _ :: _, ⟨_, _, _, h⟩ => exact h.elim
  obtain ⟨l', q1, q2, q3⟩ := k1
  go_wp2_with fail
  go_ret
  have hl : u.ownBlock.toList = l := by rw [q2, show l' = [] from q3, List.append_nil]
  refine ⟨u, rfl, q1, fun b hb => ?_, ?_⟩
  · rcases k3 b (by rw [← hl]; exact hb) with h | h
    · exact .inl (Nat.le_trans h4.size h)
    · exact .inr h
  · refine (Kept.trans h4 k5).mono fun k _ h => ?_
    rcases h with h | h | h
    · rw [← h]; simp
    · cases h
    · exact h
theorem ok_impl_rising : GSpec Try.prog s_impl_rising := by
  intro x vs w rb cb ob hargs hraw hnd hrb hpre
  obtain ⟨(l : List Rt), ⟨⟩⟩ := x
  obtain ⟨h1, h2, _⟩ := hpre
  match vs, hargs with
  | [v], ⟨c1, o1, c2, o2, ⟨g1, g2, g3⟩, ⟨g4, g5⟩, g6, g7⟩ =>
    subst g2 g3 g4 g5
    simp only [List.append_nil, List.nil_append] at g6 g7
    subst g6 g7
    refine (rising_walk v l w h1 h2 g1).mono ?_
    rintro e w' ⟨u, rfl, q1, q2, q3⟩
    refine ⟨[u], u.ownBlock.toList, rfl, ⟨[], q1, by simp, rfl⟩, ?_, q2, trivial, q3.mono fun k _ h => .inr h⟩
    cases u.ownBlock <;> simp
end Go.Vx
