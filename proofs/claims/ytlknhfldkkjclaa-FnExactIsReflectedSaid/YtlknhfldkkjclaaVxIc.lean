/- When a change is a conjugacy: the program's function and the reference's. -/
import Derived.Test.YtlknhfldkkjclaaVpIc
import Derived.Test.YtlknhfldkkjclaaVxTp
namespace Go.Vx
open Go Go.Proofs
set_option maxRecDepth 100000
set_option linter.unusedSimpArgs false
set_option linter.unusedVariables false

end Go.Vx
