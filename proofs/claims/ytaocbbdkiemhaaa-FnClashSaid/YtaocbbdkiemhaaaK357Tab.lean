/- The table of functions is the program's: by computation. By gen.py. -/
import Derived.Test.YtaocbbdkiemhaaaK357Given
import Derived.Test.YtaocbbdkiemhaaaK357Code
import Derived.Test.YtaocbbdkiemhaaaProg
import Derived.KernelRfl
namespace Go.DM
set_option linter.unusedSectionVars false
variable [Tok]
open Go.Proofs
theorem tab_ok : okTab Try.prog R (Code.gs ++ Code.tab) = true := by kernel_rfl
theorem tab_plain : (Code.tab.all fun p => p.2.given.isNone) = true := by kernel_rfl
theorem known : ∀ p ∈ Code.gs, ∀ o, p.2.given = some o → Known Try.prog R Kn.none (R p.1) o := fun p hp => by cases hp
theorem table : Table Try.prog R Kn.none G := table_of tab_ok tab_plain known
end Go.DM
