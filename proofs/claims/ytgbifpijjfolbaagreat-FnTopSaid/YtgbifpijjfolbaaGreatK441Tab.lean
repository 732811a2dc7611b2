/- The table of functions is the program's: by computation. By gen.py. -/
import Derived.Test.YtgbifpijjfolbaaGreatK441Given
import Derived.Test.YtgbifpijjfolbaaGreatK441Code
import Derived.Test.YtgbifpijjfolbaaGreatK441Known
import Derived.Test.YtgbifpijjfolbaaGreatProg
import Derived.KernelRfl
set_option linter.all false
namespace Go.DM
variable [Tok]
open Go.Proofs
def ren_n137 : Go.Shelf.Ren := ⟨fun n => if n = 137 then 110 else if n = 217 then 119 else if n = 266 then 120 else n, fun n => if n = 9 then 9 else if n = 5 then 5 else if n = 3 then 3 else n, fun n => n⟩
theorem lays_n137 : Lays.n137 Tryz.prog ren_n137 where
  mixed := by kernel_rfl
  f137 := by kernel_rfl
  f217 := by kernel_rfl
  f266 := by kernel_rfl
  t3 := Tryz.underlying3
  a3 := Tryz.isAgg3
  z3 := Tryz.sizeOf3
  v3 := Tryz.zeroValue3
  t5 := Tryz.underlying5
  a5 := Tryz.isAgg5
  z5 := Tryz.sizeOf5
  v5 := Tryz.zeroValue5
  t9 := Tryz.underlying9
  a9 := Tryz.isAgg9
  z9 := Tryz.sizeOf9
  v9 := Tryz.zeroValue9
theorem tab_ok : okTab Tryz.prog R (Code.gs ++ Code.tab) = true := by kernel_rfl
theorem tab_plain : (Code.tab.all fun p => p.2.given.isNone) = true := by kernel_rfl
theorem known : ∀ p ∈ Code.gs, ∀ o, p.2.given = some o → Known Tryz.prog R Kn.none (R p.1) o := by
  intro p hp o ho
  simp only [Code.gs, List.mem_cons, List.mem_nil_iff, or_false] at hp
  rcases hp with rfl
  · cases ho; exact Known.indexByte lays_n137 (by kernel_rfl)
theorem table : Table Tryz.prog R Kn.none G := table_of tab_ok tab_plain known
end Go.DM
