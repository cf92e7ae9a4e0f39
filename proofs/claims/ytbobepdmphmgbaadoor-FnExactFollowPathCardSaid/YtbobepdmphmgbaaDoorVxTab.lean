/- The types of this seat's program, for the evaluator. -/
import Derived.Test.YtbobepdmphmgbaaDoorRows
import Derived.Test.YtbobepdmphmgbaaDoorVxTypes
namespace Go.Vx
open Go Go.Proofs
def ratTy : Ty := ⟨2, 16, true, [.num .i64 0, .num .i64 0], [(0,1),(1,1)], none, some .rat⟩
def ptTy : Ty := ⟨4, 32, true, [.num .i64 0, .num .i64 0, .num .i64 0, .num .i64 0], [(0,2),(2,2)], none, none⟩
def ivTy : Ty := ⟨4, 32, true, [.num .i64 0, .num .i64 0, .num .i64 0, .num .i64 0], [(0,2),(2,2)], none, none⟩
def TL : List (Nat × Ty) := [
  (23, ratTy),
 (46, ptTy),
 (5, ⟨1, 1, false, [.num .u8 0], [], none, some (.num .u8)⟩),
 (9, ⟨1, 16, false, [.str ByteArray.empty], [], none, some .str⟩),
  (3, ⟨1, 8, false, [.num .i64 0], [], none, some (.num .i64)⟩),
  (4, ⟨1, 1, false, [.lit false], [], none, some .bool⟩)]
theorem tab_ok : tabB Tryd.prog (tabT TL) TL = true := by kernel_rfl
theorem fol : Tryd.prog.follows .mixedOrders = true := by kernel_rfl
end Go.Vx
