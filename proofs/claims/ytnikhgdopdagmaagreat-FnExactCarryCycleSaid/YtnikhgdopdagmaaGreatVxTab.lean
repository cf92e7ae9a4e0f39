/- The types of this seat's program, for the evaluator. -/
import Derived.Test.YtnikhgdopdagmaaGreatRows
import Derived.Test.YtnikhgdopdagmaaGreatVxTypes
namespace Go.Vx
open Go Go.Proofs
def ratTy : Ty := ⟨2, 16, true, [.num .i64 0, .num .i64 0], [(0,1),(1,1)], none, some .rat⟩
def ptTy : Ty := ⟨4, 32, true, [.num .i64 0, .num .i64 0, .num .i64 0, .num .i64 0], [(0,2),(2,2)], none, none⟩
def ivTy : Ty := ⟨4, 32, true, [.num .i64 0, .num .i64 0, .num .i64 0, .num .i64 0], [(0,2),(2,2)], none, none⟩
def TL : List (Nat × Ty) := [
  (42, ratTy),
 (48, ratTy),
 (26, ⟨1, 24, false, [.nil], [], some (42, .rat), none⟩),
 (53, ⟨1, 1, true, [.lit false], [(0,1)], none, none⟩),
 (50, ptTy),
 (46, ptTy),
 (29, ⟨1, 24, false, [.nil], [], some (46, .pt), none⟩),
 (22, ⟨1, 24, false, [.nil], [], some (50, .pt), none⟩),
 (23, ⟨1, 24, false, [.nil], [], some (48, .rat), none⟩),
  (3, ⟨1, 8, false, [.num .i64 0], [], none, some (.num .i64)⟩),
  (4, ⟨1, 1, false, [.lit false], [], none, some .bool⟩)]
theorem tab_ok : tabB Tryz.prog (tabT TL) TL = true := by kernel_rfl
theorem fol : Tryz.prog.follows .mixedOrders = true := by kernel_rfl
end Go.Vx
