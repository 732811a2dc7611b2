/- The table of functions is the program's: by computation. By gen.py. -/
import Derived.Test.YtadlffkjghjciaaGreatDoorK380Given
import Derived.Test.YtadlffkjghjciaaGreatDoorK380Code
import Derived.Test.YtadlffkjghjciaaGreatDoorK380Known
import Derived.Test.YtadlffkjghjciaaGreatDoorProg
import Derived.KernelRfl
set_option linter.unusedSectionVars false
set_option linter.unusedSimpArgs false
set_option linter.unusedVariables false
namespace Go.DM
variable [Tok]
open Go.Proofs
def ren_n137 : Go.Shelf.Ren := ⟨fun n => if n = 137 then 83 else if n = 217 then 100 else if n = 266 then 107 else n, fun n => if n = 9 then 9 else if n = 5 then 5 else if n = 3 then 3 else n, fun n => n⟩
theorem lays_n137 : Lays.n137 Tryz.prog ren_n137 where
  mixed := by kernel_rfl
  f137 := by kernel_rfl
  f217 := by kernel_rfl
  f266 := by kernel_rfl
  t3 := Tryz.underlying3
  a3 := Tryz.isAgg3
  z3 := Tryz.sizeOf3
  v3 := Tryz.zeroValue3
  t5 := Tryz.underlying5
  a5 := Tryz.isAgg5
  z5 := Tryz.sizeOf5
  v5 := Tryz.zeroValue5
  t9 := Tryz.underlying9
  a9 := Tryz.isAgg9
  z9 := Tryz.sizeOf9
  v9 := Tryz.zeroValue9
def ren_n146 : Go.Shelf.Ren := ⟨fun n => if n = 146 then 54 else if n = 221 then 79 else if n = 268 then 95 else if n = 138 then 96 else if n = 143 then 97 else if n = 195 then 103 else if n = 197 then 104 else if n = 218 then 105 else if n = 219 then 106 else if n = 260 then 109 else if n = 217 then 100 else if n = 225 then 110 else if n = 224 then 111 else if n = 267 then 112 else if n = 266 then 107 else if n = 314 then 115 else n, fun n => if n = 9 then 9 else if n = 31 then 44 else if n = 3 then 3 else if n = 4 then 4 else if n = 0 then 0 else if n = 105 then 119 else if n = 21 then 21 else if n = 5 then 5 else if n = 46 then 109 else if n = 119 then 129 else if n = 139 then 132 else if n = 138 then 131 else if n = 146 then 125 else if n = 51 then 124 else n, fun n => if n = 1 then 0 else if n = 3 then 1 else if n = 4 then 2 else n⟩
theorem lays_n146 : LaysM.n146 Tryz.prog ren_n146 where
  mixed := by kernel_rfl
  f138 := by kernel_rfl
  f143 := by kernel_rfl
  f146 := by kernel_rfl
  f195 := by kernel_rfl
  f197 := by kernel_rfl
  f217 := by kernel_rfl
  f218 := by kernel_rfl
  f219 := by kernel_rfl
  f221 := by kernel_rfl
  f224 := by kernel_rfl
  f225 := by kernel_rfl
  f260 := by kernel_rfl
  f266 := by kernel_rfl
  f267 := by kernel_rfl
  f268 := by kernel_rfl
  f314 := by kernel_rfl
  t0 := Tryz.underlying0
  a0 := Tryz.isAgg0
  z0 := Tryz.sizeOf0
  v0 := Tryz.zeroValue0
  t3 := Tryz.underlying3
  a3 := Tryz.isAgg3
  z3 := Tryz.sizeOf3
  v3 := Tryz.zeroValue3
  t4 := Tryz.underlying4
  a4 := Tryz.isAgg4
  z4 := Tryz.sizeOf4
  v4 := Tryz.zeroValue4
  t5 := Tryz.underlying5
  a5 := Tryz.isAgg5
  z5 := Tryz.sizeOf5
  v5 := Tryz.zeroValue5
  t9 := Tryz.underlying9
  a9 := Tryz.isAgg9
  z9 := Tryz.sizeOf9
  v9 := Tryz.zeroValue9
  t21 := Tryz.underlying21
  a21 := Tryz.isAgg21
  z21 := Tryz.sizeOf21
  v21 := Tryz.zeroValue21
  t31 := Tryz.underlying44
  a31 := Tryz.isAgg44
  z31 := Tryz.sizeOf44
  v31 := Tryz.zeroValue44
  t46 := Tryz.underlying109
  a46 := Tryz.isAgg109
  z46 := Tryz.sizeOf109
  v46 := Tryz.zeroValue109
  t51 := Tryz.underlying124
  a51 := Tryz.isAgg124
  z51 := Tryz.sizeOf124
  v51 := Tryz.zeroValue124
  t105 := Tryz.underlying119
  a105 := Tryz.isAgg119
  z105 := Tryz.sizeOf119
  v105 := Tryz.zeroValue119
  t119 := Tryz.underlying129
  a119 := Tryz.isAgg129
  z119 := Tryz.sizeOf129
  t138 := Tryz.underlying131
  a138 := Tryz.isAgg131
  z138 := Tryz.sizeOf131
  v138 := Tryz.zeroValue131
  t139 := Tryz.underlying132
  a139 := Tryz.isAgg132
  z139 := Tryz.sizeOf132
  v139 := Tryz.zeroValue132
  t146 := Tryz.underlying125
  a146 := Tryz.isAgg125
  z146 := Tryz.sizeOf125
  v146 := Tryz.zeroValue125
  g1 := by kernel_rfl
  g3 := by kernel_rfl
  g4 := by kernel_rfl
  i0 := by kernel_rfl
  i3 := by kernel_rfl
  i4 := by kernel_rfl
  i5 := by kernel_rfl
  i9 := by kernel_rfl
  i21 := by kernel_rfl
  i31 := by kernel_rfl
  i46 := by kernel_rfl
  i51 := by kernel_rfl
  i105 := by kernel_rfl
  i138 := by kernel_rfl
  i139 := by kernel_rfl
  i146 := by kernel_rfl
  m1 := by kernel_rfl
  s1_3 := fun w h => Go.Proofs.cell_of_shapedOpen_int (zero := #[.int .i64 0]) (t := 3) h (of_decide_eq_true (by kernel_rfl)) (by kernel_rfl) rfl (by kernel_rfl) (by kernel_rfl) Tryz.underlying3
  m3 := by kernel_rfl
  m4 := by kernel_rfl
def ren_n102 : Go.Shelf.Ren := ⟨fun n => if n = 102 then 55 else if n = 209 then 80 else if n = 207 then 98 else n, fun n => if n = 9 then 9 else if n = 4 then 4 else if n = 3 then 3 else n, fun n => n⟩
theorem lays_n102 : Lays.n102 Tryz.prog ren_n102 where
  mixed := by kernel_rfl
  f102 := by kernel_rfl
  f207 := by kernel_rfl
  f209 := by kernel_rfl
  t3 := Tryz.underlying3
  a3 := Tryz.isAgg3
  z3 := Tryz.sizeOf3
  v3 := Tryz.zeroValue3
  t4 := Tryz.underlying4
  a4 := Tryz.isAgg4
  z4 := Tryz.sizeOf4
  v4 := Tryz.zeroValue4
  t9 := Tryz.underlying9
  a9 := Tryz.isAgg9
  z9 := Tryz.sizeOf9
  v9 := Tryz.zeroValue9
theorem tab_ok : okTab Tryz.prog R (Code.gs ++ Code.tab) = true := by kernel_rfl
theorem tab_plain : (Code.tab.all fun p => p.2.given.isNone) = true := by kernel_rfl
theorem known : ∀ p ∈ Code.gs, ∀ o, p.2.given = some o → Known Tryz.prog R (Kn.max 0) (R p.1) o := by
  intro p hp o ho
  simp only [Code.gs, List.mem_cons, List.mem_nil_iff, or_false] at hp
  rcases hp with rfl | rfl | rfl
  · cases ho; exact Known.indexByte lays_n137 (by kernel_rfl)
  · cases ho; exact Known.split lays_n146 (by kernel_rfl) (fun w h => h)
  · cases ho; exact Known.trimSuffix lays_n102 (by kernel_rfl)
theorem table : Table Tryz.prog R (Kn.max 0) G := table_of tab_ok tab_plain known
end Go.DM
