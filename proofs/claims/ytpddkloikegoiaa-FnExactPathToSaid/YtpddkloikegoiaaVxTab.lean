/- The types of this seat's program, for the evaluator. -/
import Derived.Test.YtpddkloikegoiaaRows
import Derived.Test.YtpddkloikegoiaaVxTypes
namespace Go.Vx
open Go Go.Proofs
def ratTy : Ty := ⟨2, 16, true, [.num .i64 0, .num .i64 0], [(0,1),(1,1)], none, some .rat⟩
def ptTy : Ty := ⟨4, 32, true, [.num .i64 0, .num .i64 0, .num .i64 0, .num .i64 0], [(0,2),(2,2)], none, none⟩
def ivTy : Ty := ⟨4, 32, true, [.num .i64 0, .num .i64 0, .num .i64 0, .num .i64 0], [(0,2),(2,2)], none, none⟩
def TL : List (Nat × Ty) := [
  (24, ratTy),
 (23, ratTy),
 (32, ⟨1, 24, false, [.nil], [], some (24, .rat), none⟩),
 (78, ⟨1, 1, true, [.lit false], [(0,1)], none, none⟩),
 (75, ptTy),
 (72, ptTy),
 (44, ⟨1, 24, false, [.nil], [], some (72, .pt), none⟩),
 (41, ⟨1, 24, false, [.nil], [], some (75, .pt), none⟩),
 (90, ptTy),
 (9, ⟨1, 16, false, [.str ByteArray.empty], [], none, some .str⟩),
  (3, ⟨1, 8, false, [.num .i64 0], [], none, some (.num .i64)⟩),
  (4, ⟨1, 1, false, [.lit false], [], none, some .bool⟩)]
theorem tab_ok : tabB Try.prog (tabT TL) TL = true := by kernel_rfl
theorem fol : Try.prog.follows .mixedOrders = true := by kernel_rfl
end Go.Vx
