/- The types of this seat's program, for the evaluator. -/
import Derived.Test.YtmdfennncoghjaaRows
import Derived.Test.YtmdfennncoghjaaVxTypes
namespace Go.Vx
open Go Go.Proofs
def ratTy : Ty := ⟨2, 16, true, [.num .i64 0, .num .i64 0], [(0,1),(1,1)], none, some .rat⟩
def ptTy : Ty := ⟨4, 32, true, [.num .i64 0, .num .i64 0, .num .i64 0, .num .i64 0], [(0,2),(2,2)], none, none⟩
def ivTy : Ty := ⟨4, 32, true, [.num .i64 0, .num .i64 0, .num .i64 0, .num .i64 0], [(0,2),(2,2)], none, none⟩
def TL : List (Nat × Ty) := [
  (42, ratTy),
 (41, ratTy),
 (33, ⟨1, 24, false, [.nil], [], some (42, .rat), none⟩),
 (85, ⟨1, 24, false, [.nil], [], some (3, .num .i64), none⟩),
 (79, ⟨1, 1, true, [.lit false], [(0,1)], none, none⟩),
 (71, ptTy),
 (68, ptTy),
 (25, ⟨1, 24, false, [.nil], [], some (68, .pt), none⟩),
 (22, ⟨1, 24, false, [.nil], [], some (71, .pt), none⟩),
 (57, ⟨1, 24, true, [.nil], [(0,1)], none, none⟩),
 (54, ⟨1, 24, true, [.nil], [(0,1)], none, none⟩),
 (29, ⟨1, 24, false, [.nil], [], some (41, .rat), none⟩),
  (3, ⟨1, 8, false, [.num .i64 0], [], none, some (.num .i64)⟩),
  (4, ⟨1, 1, false, [.lit false], [], none, some .bool⟩)]
theorem tab_ok : tabB Try.prog (tabT TL) TL = true := by kernel_rfl
theorem fol : Try.prog.follows .mixedOrders = true := by kernel_rfl
end Go.Vx
