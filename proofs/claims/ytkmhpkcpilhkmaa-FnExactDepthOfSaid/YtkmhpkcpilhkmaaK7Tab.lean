/- The table of functions is the program's: by computation. -/
import Derived.Test.YtkmhpkcpilhkmaaK7Top
import Derived.Test.YtkmhpkcpilhkmaaK7Code
import Derived.Test.YtkmhpkcpilhkmaaProg
import Derived.KernelRfl
namespace Go.DM
theorem tab_ok : okTab Go.Proofs.Try.prog R Code.tab = true := by kernel_rfl
theorem table : Table Go.Proofs.Try.prog R G := table_of tab_ok
end Go.DM
