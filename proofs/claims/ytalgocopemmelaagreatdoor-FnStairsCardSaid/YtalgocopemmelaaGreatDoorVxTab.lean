/- The types of this seat's program, for the evaluator. -/
import Derived.Test.YtalgocopemmelaaGreatDoorRows
import Derived.Test.YtalgocopemmelaaGreatDoorVxTypes
namespace Go.Vx
open Go Go.Proofs
def ratTy : Ty := ⟨2, 16, true, [.num .i64 0, .num .i64 0], [(0,1),(1,1)], none, some .rat⟩
def ptTy : Ty := ⟨4, 32, true, [.num .i64 0, .num .i64 0, .num .i64 0, .num .i64 0], [(0,2),(2,2)], none, some .pt⟩
def ivTy : Ty := ⟨4, 32, true, [.num .i64 0, .num .i64 0, .num .i64 0, .num .i64 0], [(0,2),(2,2)], none, some .iv⟩
def TL : List (Nat × Ty) := [
  (30, ratTy),
 (24, ⟨1, 24, false, [.nil], [], some (30, .rat), none⟩),
 (26, ⟨1, 24, false, [.nil], [], some (3, .num .i64), none⟩),
 (105, ⟨1, 1, true, [.lit false], [(0,1)], none, none⟩),
 (76, ptTy),
 (45, ⟨1, 24, false, [.nil], [], some (76, .pt), none⟩),
 (54, ⟨1, 8, false, [.num .u64 0], [], none, some (.num .u64)⟩),
 (22, ⟨1, 24, false, [.nil], [], some (5, .num .u8), none⟩),
 (56, ⟨3, 40, true, [.nil, .num .i64 0, .num .u64 0], [(0,1),(1,1),(2,1)], none, none⟩),
 (5, ⟨1, 1, false, [.num .u8 0], [], none, some (.num .u8)⟩),
 (81, ⟨1, 24, false, [.nil], [], some (9, .str), none⟩),
 (9, ⟨1, 16, false, [.str ByteArray.empty], [], none, some .str⟩),
 (47, ⟨1, 24, true, [.nil], [(0,1)], none, none⟩),
  (3, ⟨1, 8, false, [.num .i64 0], [], none, some (.num .i64)⟩),
  (4, ⟨1, 1, false, [.lit false], [], none, some .bool⟩)]
theorem tab_ok : tabB Tryz.prog (tabT TL) TL = true := by kernel_rfl
theorem fol : Tryz.prog.follows .mixedOrders = true := by kernel_rfl
end Go.Vx
