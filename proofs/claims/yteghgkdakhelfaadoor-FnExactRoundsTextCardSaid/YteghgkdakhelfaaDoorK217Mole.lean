/- Moles: what the functions of both sides give. -/
import Derived.Test.YteghgkdakhelfaaDoorK217OkL
set_option linter.unusedSimpArgs false
set_option linter.unusedVariables false
namespace Go.DM
open Go.IntWalk
variable {w h : Int} {g : Nat → Int} {cs : List S} {q : Nat → Int} {qs : List S}

end Go.DM
