/- Fractions from 0 to 1: the program's functions and the reference's. -/
import Derived.Test.YtfnfbomnijlhcaaDoorVxC
import Derived.Test.YtfnfbomnijlhcaaDoorVxF
import Derived.Test.YtfnfbomnijlhcaaDoorVpSb
namespace Go.Vx
open Go Go.Proofs
set_option maxRecDepth 100000
set_option linter.unusedSimpArgs false
set_option linter.unusedVariables false

theorem any_not {α : Type} (p : α → Bool) (l : List α) : (!(l.any fun x => !p x)) = l.all p := by
  rw [List.not_any_eq_all_not]; simp
end Go.Vx
