/- Valid lawns: both sides. -/
import Derived.Test.YteghgkdakhelfaaDoorK217Lawn
set_option linter.unusedSimpArgs false
set_option linter.unusedVariables false
namespace Go.DM
open Go.IntWalk
variable {w h : Int} {g : Nat → Int} {cs : List S}

variable {q : Nat → Int} {qs : List S}
end Go.DM
