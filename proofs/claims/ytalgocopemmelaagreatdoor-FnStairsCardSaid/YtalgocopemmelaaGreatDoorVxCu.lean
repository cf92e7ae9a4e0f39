/- Cursors over bytes: the functions that draw. -/
import Derived.Test.YtalgocopemmelaaGreatDoorVpCu
import Derived.Test.YtalgocopemmelaaGreatDoorVxF
import Derived.Shelf.Lay
import Derived.BigQuiet
namespace Go.Vx
open Go Go.Proofs Go.Shelf Go.RowKit
set_option maxRecDepth 100000
set_option linter.unusedSimpArgs false
set_option linter.unusedVariables false

theorem heap_setCell_same (w : World) (b i : Nat) (cs : Array Value) (t : TypeId) (v : Value) (h : w.heap[b]? = some (.cells cs t (0, 0))) : (w.setCell ⟨b, i, none⟩ v).heap[b]? = some (.cells (cs.setIfInBounds i v) t (0, 0)) := by
  simp [World.setCell, Array.getElem?_modify, h]
theorem kept_two (W : World) (k p q : Nat) (u v : Value) : Kept (fun j => j = k) W ((((W.drewN p).setCell ⟨k, 1, none⟩ u).setCell ⟨k, 2, none⟩ v).drewN q) := by
  refine ⟨rfl, rfl, rfl, ?_, fun j hj hne => ?_⟩
  · simp [World.setCell, World.drewN]
  · exact (Below.heap_setCell _ _ _ j hne).trans (Below.heap_setCell _ _ _ j hne)
theorem cu_cell {w : World} {k : Nat} {cs : Array Value} {t : TypeId} {fz : Nat × Nat} (h : w.heap[k]? = some (.cells cs t fz)) (i : Nat) : w.cell? ⟨k, i, none⟩ = cs[i]? := by unfold World.cell?; rw [h]; rfl
theorem cu_frz {w : World} {k : Nat} {cs : Array Value} {t : TypeId} (h : w.heap[k]? = some (.cells cs t (0, 0))) (i : Nat) : w.frozen? ⟨k, i, none⟩ = false := by simp [World.frozen?, h]

set_option maxHeartbeats 2000000 in
theorem next_walk (r : Raw) (a sd : Int) (k : Nat) (W : World) (rb : List Nat) (ha : 0 ≤ a ∧ a ≤ 4611686018427387904) (hk : W.heap[k]? = some (.cells #[r.u, .int .i64 a, .int .u64 sd] 56 (0, 0))) (hl : ListOk W rb (.num .u8) r.bs r.u) (hkr : k ∉ rb) :
    Calls Tryz.prog 64 #[.pointer (some ⟨k, 0, none⟩)] W fun e w' => e = .returned (.int .i64 (nextV ⟨r, a, sd⟩)) ∧ w'.heap[k]? = some (.cells #[r.u, .int .i64 (a + 1), .int .u64 (nextSd ⟨r, a, sd⟩)] 56 (0, 0)) ∧ Kept (fun j => j = k) W w' := by
  obtain ⟨aa, c, hu, hc, hm, hcell⟩ := hl
  rw [hu] at hk ⊢
  have c0 := cu_cell hk 0
  have c1 := cu_cell hk 1
  have c2 := cu_cell hk 2
  have f1 := cu_frz hk 1
  have f2 := cu_frz hk 2
  simp only [List.getElem?_toArray, List.getElem?_cons_zero, List.getElem?_cons_succ] at c0 c1 c2
  by_cases hlt : a < (r.bs.length : Int)
  · obtain ⟨ad, rfl, hadr, hadl, hcl⟩ := hcell (by omega)
    obtain ⟨b, off, sp⟩ := ad
    have hbk : b ≠ k := fun e => hkr (e ▸ hadr)
    have hg0 : ∀ j, (h : j < r.bs.length) → (flat (.num .u8) r.bs)[j]? = some (.int .u8 r.bs[j]) := fun j h => by
      have := flat_get (.num .u8) r.bs j 0 h (by decide)
      rw [show j * VK.size (.num .u8) + 0 = j by simp [VK.size]] at this
      rw [this]
      simp [valCells, List.getD_eq_getElem?_getD, List.getElem?_eq_getElem h]
    have hsp : sp = none := by
      have := hcl 0 _ (hg0 0 (by omega))
      cases sp with
      | none => rfl
      | some q =>
        exfalso
        simp only [Addr.add, if_true, World.cell?] at this
        split at this <;> simp at this
    subst hsp
    obtain ⟨n, rfl⟩ : ∃ n : Nat, a = n := ⟨a.toNat, by omega⟩
    have hn : n < r.bs.length := by omega
    have hx : W.cell? ⟨b, off + n, none⟩ = some (.int .u8 r.bs[n]) := by
      have := hcl n _ (hg0 n hn)
      simp only [Addr.add] at this
      split at this
      · rename_i e
        subst e
        simpa using this
      · exact this
    have hbr := r.hb r.bs[n] (List.getElem_mem hn)
    have hB : nextB ⟨r, n, sd⟩ = r.bs[n] := by unfold nextB; dsimp only; rw [if_pos hlt]; simp [List.getD_eq_getElem?_getD, hn]
    go_enter Tryz.func64, Tryz.ntmps64
    go_wp2
    go_quiet (fail)
    go_wp2
    all_goals (try (go_quiet (fail)))
    all_goals (try go_wp2)
    all_goals (try (go_quiet (fail)))
    all_goals (try go_wp2)
    have e1 : nextSd ⟨r, n, sd⟩ = IntKind.u64.wrap (IntKind.u64.wrap (IntKind.u64.wrap (sd * 6364136223846793005) + r.bs[n]) + 1442695040888963407) := by unfold nextSd; rw [hB]
    have e2 : nextV ⟨r, n, sd⟩ = r.bs[n] := by unfold nextV; dsimp only; rw [if_pos hlt, hB]
    rw [e1, e2]
    refine bodyPost_ret (results_tmp rfl _ _ _) rfl ⟨rfl, ?_, ?_⟩
    · exact heap_setCell_same _ k 2 _ _ _ (heap_setCell_same _ k 1 _ _ _ hk)
    · exact kept_two _ _ _ _ _ _
  · have hlv : nextB ⟨r, a, sd⟩ = 0 ∧ nextV ⟨r, a, sd⟩ = wrap64 (bits BinOp.and IntKind.u64 (nextSd ⟨r, a, sd⟩ / 1099511627776) 255) := by
      constructor
      · unfold nextB; dsimp only; rw [if_neg hlt]
      · unfold nextV; dsimp only; rw [if_neg hlt]
    obtain ⟨hB, e2⟩ := hlv
    go_enter Tryz.func64, Tryz.ntmps64
    go_wp2
    go_quiet (fail)
    go_wp2
    all_goals (try (go_quiet (fail)))
    all_goals (try go_wp2)
    have e1 : nextSd ⟨r, a, sd⟩ = IntKind.u64.wrap (IntKind.u64.wrap (IntKind.u64.wrap (sd * 6364136223846793005)) + 1442695040888963407) := by unfold nextSd; rw [hB, Int.add_zero]
    rw [e2, e1]
    refine bodyPost_ret (results_tmp rfl _ _ _) rfl ⟨rfl, ?_, ?_⟩
    · exact heap_setCell_same _ k 2 _ _ _ (heap_setCell_same _ k 1 _ _ _ hk)
    · exact kept_two _ _ _ _ _ _

noncomputable def s_cur_next : Sig := ⟨64, [.cell 56 .cur], [.val NI], fun ((c : Cur), _) => ⟨[AtOk 1 c], (nextV c, ()), (nextS c, ())⟩⟩
theorem ok_cur_next : GSpec Tryz.prog s_cur_next := by
  intro x vs w rb cb ob hargs hraw hnd hrb hpre
  obtain ⟨(⟨r, a, sd⟩ : Cur), ⟨⟩⟩ := x
  obtain ⟨h1, _⟩ := hpre
  have h0 := h1.lo
  have h2 := h1.hi
  dsimp only at h0 h2
  match vs, hargs with
  | [v], ⟨c1, o1, c2, o2, ⟨k, g1, hk, g2, g3⟩, ⟨g4, g5⟩, e1, e2⟩ =>
    subst g1 g2 g3 g4 g5
    simp only [List.append_nil] at e1 e2
    subst e1 e2
    refine (next_walk r a sd k w rb ⟨h0, by omega⟩ hk hraw.1 (hrb k (by simp))).mono ?_
    rintro e w' ⟨rfl, q1, q2⟩
    exact ⟨[.int .i64 (nextV ⟨r, a, sd⟩)], [], rfl, ⟨rfl, rfl⟩, List.nodup_nil, (fun _ h => by cases h), ⟨by rw [nextS_eq]; exact q1, trivial⟩, q2.mono fun j _ h => by simpa using h⟩

noncomputable def s_cur_pick : Sig := ⟨42, [.cell 56 .cur, .val NI], [.val NI], fun ((c : Cur), (n : Int), _) => ⟨[AtOk 2 c], (pickV c n, ()), (pickS c n, ())⟩⟩
theorem ok_cur_pick : GSpec Tryz.prog s_cur_pick := by
  refine fn_known tab_ok fol (Known.nil.cons ok_cur_next (by kernel_rfl)) (by decide) Tryz.func42 ?_
  rintro ⟨(c : Cur), (n : Int), ⟨⟩⟩ hl ⟨h1, _⟩
  have v1 := nextV_rng c
  have v2 := nextV_rng (nextS c)
  repeat' (first | with_reducible apply andAll_cons | with_reducible apply andAll_nil | (with_reducible apply Cf.mk; kernel_rfl) | apply And.intro | intro _ | exact True.intro | apply Lf.mk)
  all_goals (try simp only [cur_eta, List.length_cons, List.length_nil, Nat.zero_add, Nat.reduceAdd, Int.cast_ofNat_Int])
  all_goals (try simp only [Bool.not_eq_true', Bool.not_eq_false', Bool.not_not, decide_eq_true_eq, decide_eq_false_iff_not, beq_iff_eq, bne_iff_ne, beq_eq_false_iff_ne, bne_eq_false_iff_eq, ne_eq, Bool.and_eq_true, Bool.and_eq_false_iff, Bool.or_eq_true, Bool.or_eq_false_iff, Int.toNat_natCast, Nat.zero_add, Int.ofNat_lt, Int.ofNat_le, List.length_cons, List.length_nil, List.drop_zero, List.take_length] at *)
  all_goals first
    | (simp only [pickS_r, nextS_r]; exact ⟨100000, rfl⟩) | exact ⟨100000, rfl⟩
    | exact h1.le (by decide)
    | exact next_at h1
    | omega
    | (rw [pickV_1 (by assumption)]; done)
    | (rw [pickV_2 (by assumption) (by assumption)]; done)
    | (rw [pickV_3 (by assumption) (by assumption)]; done)
    | (rw [pickS_1 (by assumption)]; done)
    | exact (pickS_2 (by assumption) (by assumption)).symm
    | (rw [pickS_3 (by assumption) (by assumption)]; done)
    | trace_state
noncomputable def s_cur_one : Sig := ⟨37, [.cell 56 .cur, .val NI], [.val .bool], fun ((c : Cur), (n : Int), _) => ⟨[AtOk 2 c], (pickV c n == 0, ()), (pickS c n, ())⟩⟩
theorem ok_cur_one : GSpec Tryz.prog s_cur_one := by
  refine fn_known tab_ok fol (Known.nil.cons ok_cur_pick (by kernel_rfl)) (by decide) Tryz.func37 ?_
  rintro ⟨(c : Cur), (n : Int), ⟨⟩⟩ hl ⟨h1, _⟩
  repeat' (first | with_reducible apply andAll_cons | with_reducible apply andAll_nil | (with_reducible apply Cf.mk; kernel_rfl) | apply And.intro | intro _ | exact True.intro | apply Lf.mk)
  all_goals (try simp only [cur_eta, List.length_cons, List.length_nil, Nat.zero_add, Nat.reduceAdd, Int.cast_ofNat_Int])
  all_goals first | (simp only [pickS_r, nextS_r]; exact ⟨100000, rfl⟩) | exact ⟨100000, rfl⟩ | exact h1 | rfl | trace_state
noncomputable def s_cur_among : Sig := ⟨51, [.cell 56 .cur, .list NI], [.val NI], fun ((c : Cur), (l : List Int), _) => ⟨[AtOk 2 c, 1 ≤ l.length], (amongV c l, ()), (pickS c l.length, ())⟩⟩
theorem ok_cur_among : GSpec Tryz.prog s_cur_among := by
  refine fn_known tab_ok fol (Known.nil.cons ok_cur_pick (by kernel_rfl)) (by decide) Tryz.func51 ?_
  rintro ⟨(c : Cur), (l : List Int), ⟨⟩⟩ ⟨hl, _⟩ ⟨h1, h2, _⟩
  have hl : l.length ≤ 9223372036854775807 := hl
  have v1 := pickV_lt c (n := (l.length : Int)) (by omega)
  repeat' (first | with_reducible apply andAll_cons | with_reducible apply andAll_nil | (with_reducible apply Cf.mk; kernel_rfl) | apply And.intro | intro _ | exact True.intro | apply Lf.mk)
  all_goals (try simp only [cur_eta, List.length_cons, List.length_nil, Nat.zero_add, Nat.reduceAdd, Int.cast_ofNat_Int])
  all_goals first | (simp only [pickS_r, nextS_r]; exact ⟨100000, rfl⟩) | exact ⟨100000, rfl⟩ | exact h1 | omega | rfl | (unfold amongV; rfl) | trace_state
end Go.Vx
