/- The types of this seat's program, for the evaluator. -/
import Derived.Test.YtfnfbomnijlhcaaRows
import Derived.Test.YtfnfbomnijlhcaaVxTypes
namespace Go.Vx
open Go Go.Proofs
def ratTy : Ty := ⟨2, 16, true, [.num .i64 0, .num .i64 0], [(0,1),(1,1)], none, some .rat⟩
def ptTy : Ty := ⟨4, 32, true, [.num .i64 0, .num .i64 0, .num .i64 0, .num .i64 0], [(0,2),(2,2)], none, some .pt⟩
def ivTy : Ty := ⟨4, 32, true, [.num .i64 0, .num .i64 0, .num .i64 0, .num .i64 0], [(0,2),(2,2)], none, some .iv⟩
def TL : List (Nat × Ty) := [
  (28, ratTy),
 (24, ⟨1, 24, false, [.nil], [], some (28, .rat), none⟩),
 (61, ⟨1, 24, false, [.nil], [], some (3, .num .i64), none⟩),
 (46, ⟨1, 8, false, [.num .u64 0], [], none, some (.num .u64)⟩),
 (22, ⟨1, 24, false, [.nil], [], some (5, .num .u8), none⟩),
 (48, ⟨3, 40, true, [.nil, .num .i64 0, .num .u64 0], [(0,1),(1,1),(2,1)], none, none⟩),
 (5, ⟨1, 1, false, [.num .u8 0], [], none, some (.num .u8)⟩),
 (9, ⟨1, 16, false, [.str ByteArray.empty], [], none, some .str⟩),
  (3, ⟨1, 8, false, [.num .i64 0], [], none, some (.num .i64)⟩),
  (4, ⟨1, 1, false, [.lit false], [], none, some .bool⟩)]
theorem tab_ok : tabB Try.prog (tabT TL) TL = true := by kernel_rfl
theorem fol : Try.prog.follows .mixedOrders = true := by kernel_rfl
end Go.Vx
