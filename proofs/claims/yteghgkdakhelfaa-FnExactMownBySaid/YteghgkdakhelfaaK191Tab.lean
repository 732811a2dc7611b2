/- The table of functions is the program's: by computation. By gen.py. -/
import Derived.Test.YteghgkdakhelfaaK191Given
import Derived.Test.YteghgkdakhelfaaK191Code
import Derived.Test.YteghgkdakhelfaaK191Known
import Derived.Test.YteghgkdakhelfaaProg
import Derived.KernelRfl
namespace Go.DM
open Go.Proofs
def ren_n137 : Go.Shelf.Ren := ⟨fun n => if n = 137 then 89 else if n = 217 then 104 else if n = 266 then 106 else n, fun n => if n = 9 then 9 else if n = 5 then 5 else if n = 3 then 3 else n, fun n => n⟩
theorem lays_n137 : Lays.n137 Try.prog ren_n137 where
  mixed := by kernel_rfl
  f137 := by kernel_rfl
  f217 := by kernel_rfl
  f266 := by kernel_rfl
  t3 := Try.underlying3
  a3 := Try.isAgg3
  z3 := Try.sizeOf3
  v3 := Try.zeroValue3
  t5 := Try.underlying5
  a5 := Try.isAgg5
  z5 := Try.sizeOf5
  v5 := Try.zeroValue5
  t9 := Try.underlying9
  a9 := Try.isAgg9
  z9 := Try.sizeOf9
  v9 := Try.zeroValue9
theorem tab_ok : okTab Try.prog R (Code.gs ++ Code.tab) = true := by kernel_rfl
theorem tab_plain : (Code.tab.all fun p => p.2.given.isNone) = true := by kernel_rfl
theorem known : ∀ p ∈ Code.gs, ∀ o, p.2.given = some o → Known Try.prog R (R p.1) o := by
  intro p hp o ho
  simp only [Code.gs, List.mem_cons, List.mem_nil_iff, or_false] at hp
  rcases hp with rfl
  · cases ho; exact Known.indexByte lays_n137 (by kernel_rfl)
theorem table : Table Try.prog R G := table_of tab_ok tab_plain known
end Go.DM
