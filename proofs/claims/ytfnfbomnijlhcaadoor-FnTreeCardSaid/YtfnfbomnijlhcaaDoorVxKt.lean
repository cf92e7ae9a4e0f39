/- What a call keeps, in the words of the walks; the walker's methods as calls. -/
import Derived.Test.YtfnfbomnijlhcaaDoorVxWk
import Derived.WalkKit
import Derived.BigCall
import Derived.BigQuiet
namespace Go.Vx
open Go Go.Proofs Go.RowKit
set_option maxRecDepth 100000
set_option linter.unusedSimpArgs false
set_option linter.unusedVariables false

theorem Kept.no {w w' : World} (h : Kept (fun _ => False) w w') (k : Nat) : Kept (fun j => j = k) w w' := h.mono fun _ _ h => h.elim

theorem isRat_c (x : Rt) (W : World) : Calls Tryd.prog 31 #[valOf .rat x] W fun e w' => e = .returned (.bool (goodRt x)) ∧ Kept (fun _ => False) W w' := by
  refine (ok_impl_isRat (x, ()) [valOf .rat x] W [] [] [] ⟨[], [], [], [], ⟨rfl, rfl, rfl⟩, ⟨rfl, rfl⟩, rfl, rfl⟩ trivial (by simp) (by simp) trivial).mono ?_
  rintro e w' ⟨us, l, rfl, h1, _, _, _, h2⟩
  match us, h1 with
  | [u], ⟨h3, _⟩ =>
    subst h3
    exact ⟨rfl, h2.mono fun _ _ h => by simp at h⟩
theorem less_c (x y : Rt) (W : World) (hx : smallRt x = true) (hy : smallRt y = true) : Calls Tryd.prog 35 #[valOf .rat x, valOf .rat y] W fun e w' => e = .returned (.bool (lessRt x y)) ∧ Kept (fun _ => False) W w' := by
  refine (ok_impl_less_ (x, y, ()) [valOf .rat x, valOf .rat y] W [] [] [] ⟨[], [], [], [], ⟨rfl, rfl, rfl⟩, ⟨[], [], [], [], ⟨rfl, rfl, rfl⟩, ⟨rfl, rfl⟩, rfl, rfl⟩, rfl, rfl⟩ trivial (by simp) (by simp) ⟨hx, hy, trivial⟩).mono ?_
  rintro e w' ⟨us, l, rfl, h1, _, _, _, h2⟩
  match us, h1 with
  | [u], ⟨h3, _⟩ =>
    subst h3
    exact ⟨rfl, h2.mono fun _ _ h => by simp at h⟩
theorem here_c (p : Pt) (k : Nat) (W : World) (hk : W.heap[k]? = some (.cells (List.toArray (valCells .pt p)) wkT (0, 0))) (hp : smallP p) : Calls Tryd.prog 33 #[.pointer (some ⟨k, 0, none⟩)] W fun e w' => e = .returned (valOf .rat (hereP p)) ∧ Kept (fun _ => False) W w' := by
  refine (ok_walker_here (p, ()) [.pointer (some ⟨k, 0, none⟩)] W [] [k] [] ⟨[k], [], [], [], ⟨k, rfl, hk, rfl, rfl⟩, ⟨rfl, rfl⟩, rfl, rfl⟩ trivial (by simp) (by simp) ⟨hp, trivial⟩).mono ?_
  rintro e w' ⟨us, l, rfl, h1, _, _, h4, h2⟩
  match us, h1 with
  | [u], ⟨h3, _⟩ =>
    subst h3
    refine ⟨rfl, h2.os, h2.tape, h2.output, h2.size, fun j hj _ => ?_⟩
    by_cases e : j = k
    · subst e
      rw [hk]
      exact h4.1
    · exact h2.block j hj (by simpa using e)
theorem turn_c (p : Pt) (b : Bool) (k : Nat) (W : World) (hk : W.heap[k]? = some (.cells (List.toArray (valCells .pt p)) wkT (0, 0))) (hp : smallP p) : Calls Tryd.prog 37 #[.pointer (some ⟨k, 0, none⟩), .bool b] W fun e w' => e = .returned (.tuple #[]) ∧ w'.heap[k]? = some (.cells (List.toArray (valCells .pt (turnP p b))) wkT (0, 0)) ∧ Kept (fun j => j = k) W w' := by
  refine (ok_walker_turn (p, b, ()) [.pointer (some ⟨k, 0, none⟩), .bool b] W [] [k] [] ⟨[k], [], [], [], ⟨k, rfl, hk, rfl, rfl⟩, ⟨[], [], [], [], ⟨rfl, rfl, rfl⟩, ⟨rfl, rfl⟩, rfl, rfl⟩, rfl, rfl⟩ trivial (by simp) (by simp) ⟨hp, trivial⟩).mono ?_
  rintro e w' ⟨us, l, rfl, h1, _, _, h4, h2⟩
  match us, h1 with
  | [], _ => exact ⟨rfl, h4.1, h2.mono fun j _ h => by simpa using h⟩
theorem new_c (W : World) : Calls Tryd.prog 32 #[] W fun e w' => e = .returned (.pointer (some ⟨W.heap.size, 0, none⟩)) ∧ w' = W.alloc (.cells #[.int .i64 0, .int .i64 1, .int .i64 1, .int .i64 0] wkT) := by
  go_enter Tryd.func32, Tryd.ntmps32
  go_wp2
  go_ret
  exact ⟨rfl, rfl⟩

theorem alloc_at (w : World) (o : Obj) : (w.alloc o).heap[w.heap.size]? = some o := by unfold World.alloc; simp
theorem alloc_lt (w : World) (o : Obj) : w.heap.size < (w.alloc o).heap.size := by unfold World.alloc; simp
theorem alloc_old' (w : World) (o : Obj) {k : Nat} (h : k < w.heap.size) : (w.alloc o).heap[k]? = w.heap[k]? := by unfold World.alloc; simp [Array.getElem?_push, Nat.ne_of_lt h]
theorem cell_at {w : World} {k : Nat} {cs : Array Value} {t : TypeId} {fz : Nat × Nat} (h : w.heap[k]? = some (.cells cs t fz)) (i : Nat) : w.cell? ⟨k, i, none⟩ = cs[i]? := by unfold World.cell?; rw [h]; rfl
theorem Kept.to_below {w a b : World} {B : Nat} (h : Kept (fun _ => False) w a) (k : Below B a b) (hB : w.heap.size ≤ B) : Kept (fun _ => False) w b :=
  ⟨k.os.trans h.os, k.tape.trans h.tape, k.output.trans h.output, Nat.le_trans h.size k.size, fun j hj hs => (k.block j (Nat.lt_of_lt_of_le hj hB)).trans (h.block j hj hs)⟩
theorem Kept.no_trans {a b c : World} (h : Kept (fun _ => False) a b) (k : Kept (fun _ => False) b c) : Kept (fun _ => False) a c := (h.trans k).mono fun _ _ h => h.elim id id
end Go.Vx
