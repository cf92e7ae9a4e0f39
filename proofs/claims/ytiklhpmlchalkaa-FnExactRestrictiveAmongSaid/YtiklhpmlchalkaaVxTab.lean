/- The types of this seat's program, for the evaluator. -/
import Derived.Test.YtiklhpmlchalkaaRows
import Derived.Test.YtiklhpmlchalkaaVxTypes
namespace Go.Vx
open Go Go.Proofs
def ratTy : Ty := ⟨2, 16, true, [.num .i64 0, .num .i64 0], [(0,1),(1,1)], none, some .rat⟩
def ptTy : Ty := ⟨4, 32, true, [.num .i64 0, .num .i64 0, .num .i64 0, .num .i64 0], [(0,2),(2,2)], none, none⟩
def ivTy : Ty := ⟨4, 32, true, [.num .i64 0, .num .i64 0, .num .i64 0, .num .i64 0], [(0,2),(2,2)], none, none⟩
def TL : List (Nat × Ty) := [
  (26, ratTy),
 (23, ratTy),
 (60, ⟨1, 24, false, [.nil], [], some (26, .rat), none⟩),
 (69, ⟨1, 1, true, [.lit false], [(0,1)], none, none⟩),
 (25, ivTy),
 (30, ivTy),
 (79, ptTy),
 (76, ptTy),
 (39, ⟨1, 24, false, [.nil], [], some (76, .pt), none⟩),
 (51, ⟨1, 24, false, [.nil], [], some (30, .iv), none⟩),
 (35, ⟨1, 24, false, [.nil], [], some (79, .pt), none⟩),
 (57, ⟨1, 24, false, [.nil], [], some (23, .rat), none⟩),
  (3, ⟨1, 8, false, [.num .i64 0], [], none, some (.num .i64)⟩),
  (4, ⟨1, 1, false, [.lit false], [], none, some .bool⟩)]
theorem tab_ok : tabB Try.prog (tabT TL) TL = true := by kernel_rfl
theorem fol : Try.prog.follows .mixedOrders = true := by kernel_rfl
end Go.Vx
