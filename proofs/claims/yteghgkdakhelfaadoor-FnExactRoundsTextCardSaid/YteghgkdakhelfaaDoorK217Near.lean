/- Moles: codes, cells beside. -/
import Derived.Test.YteghgkdakhelfaaDoorK217Mole
set_option linter.unusedSimpArgs false
set_option linter.unusedVariables false
namespace Go.DM
open Go.IntWalk
variable {w h : Int} {g : Nat → Int} {cs : List S} {q : Nat → Int} {qs : List S}

end Go.DM
