/- The laws' own helpers at points and intervals: equality of results, marks written into them, copies of arguments. -/
import Derived.Test.YtalgocopemmelaaGreatDoorVxL
namespace Go.Vx
open Go Go.Proofs
set_option maxRecDepth 100000
set_option linter.unusedSimpArgs false
set_option linter.unusedVariables false

theorem getA_set_self {α : Type} (d : α) (l : List α) (i : Nat) (x : α) (h : i < l.length) : getA d (l.set i x) i = x := by
  rw [getA_lt _ _ _ (by simpa using h), List.getElem_set_self]
def mkPt (k : Int) (n : Nat) : List Pt := (List.range n).map fun (i : Nat) => (⟨⟨k + 4 * (i : Int), k + 4 * (i : Int) + 1⟩, ⟨k + 4 * (i : Int) + 2, k + 4 * (i : Int) + 3⟩⟩ : Pt)
theorem mkPt_length (k : Int) (n : Nat) : (mkPt k n).length = n := by simp [mkPt]
theorem Pt_ext4 (p : Pt) {a b c d : Int} (h1 : p.1.num = a) (h2 : p.1.den = b) (h3 : p.2.num = c) (h4 : p.2.den = d) : p = ⟨⟨a, b⟩, ⟨c, d⟩⟩ := by subst h1; subst h2; subst h3; subst h4; rfl

def mkIv (k : Int) (n : Nat) : List Iv := (List.range n).map fun (i : Nat) => (⟨⟨k + 4 * (i : Int), k + 4 * (i : Int) + 1⟩, ⟨k + 4 * (i : Int) + 2, k + 4 * (i : Int) + 3⟩⟩ : Iv)
theorem mkIv_length (k : Int) (n : Nat) : (mkIv k n).length = n := by simp [mkIv]
theorem Iv_ext4 (p : Iv) {a b c d : Int} (h1 : p.1.num = a) (h2 : p.1.den = b) (h3 : p.2.num = c) (h4 : p.2.den = d) : p = ⟨⟨a, b⟩, ⟨c, d⟩⟩ := by subst h1; subst h2; subst h3; subst h4; rfl

end Go.Vx
