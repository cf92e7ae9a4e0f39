/- The program's turning of a map by half a turn: a range over a function. -/
import Derived.Test.YtlknhfldkkjclaaVpRf
import Derived.Test.YtlknhfldkkjclaaVxF
import Derived.RangeFuncNested
import Derived.RangeFuncBound
import Derived.RangeFuncCalls
import Derived.RangeFuncLeaves
import Derived.Shelf.Abstract
import Derived.Shelf.RegionOpen
import Derived.WalkKit
import Derived.OwnWalkIn
import Derived.TacticsInMore
import Derived.LoopNIn
import Derived.LoopIn
import Derived.Maps.AppendAt
namespace Go.Vx
open Go Go.Proofs Go.Shelf Go.RowKit
set_option maxRecDepth 100000
set_option linter.unusedSimpArgs false
set_option linter.unusedVariables false
attribute [local go_sem] Oper.semAt_some

def ptV (p : Pt) : Value := .agg #[.int .i64 p.x.num, .int .i64 p.x.den, .int .i64 p.y.num, .int .i64 p.y.den]
abbrev GP := { p : Pt // ptOk p = true }
/-- what comes in round k: the index, the point -/
def bwEl (fs : List GP) (h : 0 < fs.length) (k : Nat) : Int × GP := ((fs.length : Int) - 1 - (k : Int), fs[fs.length - 1 - k]?.getD fs[0])
def bwU (fs : List GP) (h : 0 < fs.length) (k : Nat) : List (Int × GP) := (List.range k).map (bwEl fs h)
theorem bwU_succ (fs : List GP) (h : 0 < fs.length) (k : Nat) : bwU fs h (k + 1) = bwU fs h k ++ [bwEl fs h k] := by simp [bwU, List.range_succ]
theorem bwU_length (fs : List GP) (h : 0 < fs.length) (k : Nat) : (bwU fs h k).length = k := by simp [bwU]

/-- what a round keeps: what lay below n₀, and the iterator's box -/
def BwK (n₀ Bs : Nat) (sv : Value) (W W' : World) : Prop := Below n₀ W W' ∧ (Boxed W Bs 26 sv → Boxed W' Bs 26 sv)

set_option maxHeartbeats 2000000 in
theorem bw1_in (F : Fence) (n : Nat) (h8 : F.fn 103) (hro : F.round = none) (hn : 1 ≤ n) (l Bs n₀ b off cap : Nat) (fs : List GP) (h0l : 0 < fs.length) (hlen : fs.length ≤ 1000) (hb : b < n₀) (J Jx : List (Int × GP) → World → Prop)
    (hY : ∀ pre x W, J pre W → pre.length < fs.length → YieldAt F (n - 1) Try.prog l #[.int .i64 x.1, ptV x.2.1] W fun e W' =>
      (e = .returned (.bool true) ∧ J (pre ++ [x]) W' ∧ BwK n₀ Bs (.slice (some ⟨b, off, none⟩) fs.length cap) W W') ∨ (e = .returned (.bool false) ∧ Jx (pre ++ [x]) W'))
    (W : World) (hBs : Boxed W Bs 26 (.slice (some ⟨b, off, none⟩) fs.length cap))
    (hc : ∀ j, (h : j < fs.length) → W.cell? ⟨b, off + j * 4, none⟩ = some (.int .i64 fs[j].1.x.num) ∧ W.cell? ⟨b, off + j * 4 + 1, none⟩ = some (.int .i64 fs[j].1.x.den) ∧ W.cell? ⟨b, off + j * 4 + 2, none⟩ = some (.int .i64 fs[j].1.y.num) ∧ W.cell? ⟨b, off + j * 4 + 3, none⟩ = some (.int .i64 fs[j].1.y.den)) (h0 : J [] W) :
    CallsIn F n Try.prog 103 #[.func (.yield l) #[] #[], .pointer (some ⟨Bs, 0, none⟩)] W fun e W' => (∃ v, e = .returned v) ∧
      ((∃ ys, ys = bwU fs h0l fs.length ∧ J ys W') ∨ (∃ pre, (∃ k, k ≤ fs.length ∧ pre = bwU fs h0l k) ∧ Jx pre W')) := by
  refine callsIn_of_wp Try.func103 rfl h8 ?_ hro
  simp only [Try.ntmps103, List.size_toArray, List.length_cons, List.length_nil, Nat.reduceAdd, Nat.reduceSub, Array.replicate_succ, Array.replicate_zero, List.push_toArray, List.append_toArray, List.nil_append, List.cons_append]
  have hBc := hBs.cell
  gi_wp2
  gi_loopw [3] (fun i wr => ∃ k : Nat, k ≤ fs.length ∧ i = .int .i64 ((fs.length : Int) - 1 - (k : Int)) ∧ J (bwU fs h0l k) wr ∧ Below n₀ W wr ∧ Boxed wr Bs 26 (.slice (some ⟨b, off, none⟩) fs.length cap))
    (fun i _ => (intOf i + 1).toNat)
  case atStart => exact ⟨0, Nat.zero_le _, by simp, h0, Below.refl _ _, hBs⟩
  case round =>
    obtain ⟨k, hk, rfl, hJs, hnx, hbx⟩ := hrel
    have hbc := hbx.cell
    by_cases hlt : k < fs.length
    · obtain ⟨c1, c2, c3, c4⟩ := hc (fs.length - 1 - k) (by omega)
      have d1 := (hnx.cell (p := ⟨b, off + (fs.length - 1 - k) * 4, none⟩) hb).trans c1
      have d2 := (hnx.cell (p := ⟨b, off + (fs.length - 1 - k) * 4 + 1, none⟩) hb).trans c2
      have d3 := (hnx.cell (p := ⟨b, off + (fs.length - 1 - k) * 4 + 2, none⟩) hb).trans c3
      have d4 := (hnx.cell (p := ⟨b, off + (fs.length - 1 - k) * 4 + 3, none⟩) hb).trans c4
      obtain ⟨fn, tmps, assign, body, hy, hR⟩ := hY _ (bwEl fs h0l k) wr hJs (by rw [bwU_length]; exact hlt)
      have hel : bwEl fs h0l k = ((fs.length : Int) - 1 - (k : Int), fs[fs.length - 1 - k]'(by omega)) := by simp [bwEl, show fs.length - 1 - k < fs.length by omega]
      rw [hel] at hy
      dsimp only [ptV] at hy
      gi_wp2
      refine hR.mono ?_
      rintro e W3 (⟨rfl, hJ3, hk3, hx3⟩ | ⟨rfl, hJx3⟩)
      · gi_wp2
        go_roundw
        case rel => exact ⟨k + 1, by omega, by congr 1; omega, by rw [bwU_succ]; exact hJ3, hnx.trans hk3, hx3 hbx⟩
        case measure => simp [intOf]; omega
      · gi_wp2
        refine bodyPost_ret (results_none rfl _ _ _) rfl ?_
        exact ⟨⟨_, rfl⟩, .inr ⟨_, ⟨k + 1, by omega, (bwU_succ _ _ _).symm⟩, hJx3⟩⟩
    · obtain rfl : k = fs.length := by omega
      gi_wp2
      go_end0
      exact ⟨⟨_, rfl⟩, .inl ⟨_, rfl, hJs⟩⟩

set_option maxHeartbeats 1000000 in
theorem bw_in (F : Fence) (n : Nat) (h6 : F.fn 78) (hro : F.round = none) (a : Option Addr) (len cap : Nat) (w : World) :
    CallsIn F n Try.prog 78 #[.slice a len cap] w fun e w' => e = .returned (.func (.func 103) #[] #[.pointer (some ⟨w.heap.size, 0, none⟩)]) ∧ w' = w.alloc (.cells #[.slice a len cap] 26) := by
  refine callsIn_of_wp Try.func78 rfl h6 ?_ hro
  simp only [Try.ntmps78, List.size_toArray, List.length_cons, List.length_nil, Nat.reduceAdd, Nat.reduceSub, Array.replicate_succ, Array.replicate_zero, List.push_toArray, List.append_toArray, List.nil_append, List.cons_append]
  gi_wp2
  go_ret
  exact ⟨rfl, rfl⟩

theorem bw_stops (F : Fence) (n : Nat) (h8 : F.fn 103) (hro : F.round = none) (hn : 1 ≤ n) (Bs n₀ b off cap : Nat) (fs : List GP) (h0l : 0 < fs.length) (hlen : fs.length ≤ 1000) (hb : b < n₀) (w : World) (hn₀ : n₀ ≤ w.heap.size)
    (hBs : Boxed w Bs 26 (.slice (some ⟨b, off, none⟩) fs.length cap))
    (hc : ∀ j, (h : j < fs.length) → w.cell? ⟨b, off + j * 4, none⟩ = some (.int .i64 fs[j].1.x.num) ∧ w.cell? ⟨b, off + j * 4 + 1, none⟩ = some (.int .i64 fs[j].1.x.den) ∧ w.cell? ⟨b, off + j * 4 + 2, none⟩ = some (.int .i64 fs[j].1.y.num) ∧ w.cell? ⟨b, off + j * 4 + 3, none⟩ = some (.int .i64 fs[j].1.y.den)) :
    SeqStopsK F n Try.prog 103 #[.pointer (some ⟨Bs, 0, none⟩)] (fun x : Int × GP => #[Value.int .i64 x.1, ptV x.2.1]) (BwK n₀ Bs (.slice (some ⟨b, off, none⟩) fs.length cap)) (fun ys => ys = bwU fs h0l fs.length)
      (fun pre => ∃ k, k ≤ fs.length ∧ pre = bwU fs h0l k) fs.length w := fun l J Jx W hW _ _ hY h0 => by
  have hBs' : Boxed W Bs 26 (.slice (some ⟨b, off, none⟩) fs.length cap) := (hW.block Bs hBs.lt).trans hBs
  have up : ∀ {p : Addr} {v : Value}, p.block < n₀ → w.cell? p = some v → W.cell? p = some v := fun hp h => (hW.cell (Nat.lt_of_lt_of_le hp hn₀)).trans h
  exact bw1_in F n h8 hro hn l Bs n₀ b off cap fs h0l hlen hb J Jx hY W hBs' (fun j h => by
    obtain ⟨c1, c2, c3, c4⟩ := hc j h
    exact ⟨up hb c1, up hb c2, up hb c3, up hb c4⟩) h0
end Go.Vx
