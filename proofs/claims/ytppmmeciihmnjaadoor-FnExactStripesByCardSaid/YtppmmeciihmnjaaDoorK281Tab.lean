/- The table of functions is the program's: by computation. By gen.py. -/
import Derived.Test.YtppmmeciihmnjaaDoorK281Given
import Derived.Test.YtppmmeciihmnjaaDoorK281Code
import Derived.Test.YtppmmeciihmnjaaDoorK281Known
import Derived.Test.YtppmmeciihmnjaaDoorProg
import Derived.KernelRfl
namespace Go.DM
open Go.Proofs
def ren_n137 : Go.Shelf.Ren := ⟨fun n => if n = 137 then 121 else if n = 217 then 140 else if n = 266 then 153 else n, fun n => if n = 9 then 9 else if n = 5 then 5 else if n = 3 then 3 else n, fun n => n⟩
theorem lays_n137 : Lays.n137 Tryd.prog ren_n137 where
  mixed := by kernel_rfl
  f137 := by kernel_rfl
  f217 := by kernel_rfl
  f266 := by kernel_rfl
  t3 := Tryd.underlying3
  a3 := Tryd.isAgg3
  z3 := Tryd.sizeOf3
  v3 := Tryd.zeroValue3
  t5 := Tryd.underlying5
  a5 := Tryd.isAgg5
  z5 := Tryd.sizeOf5
  v5 := Tryd.zeroValue5
  t9 := Tryd.underlying9
  a9 := Tryd.isAgg9
  z9 := Tryd.sizeOf9
  v9 := Tryd.zeroValue9
def ren_n146 : Go.Shelf.Ren := ⟨fun n => if n = 146 then 57 else if n = 221 then 101 else if n = 268 then 127 else if n = 138 then 109 else if n = 143 then 111 else if n = 195 then 132 else if n = 197 then 113 else if n = 218 then 133 else if n = 219 then 136 else if n = 260 then 137 else if n = 217 then 140 else if n = 225 then 149 else if n = 224 then 150 else if n = 267 then 151 else if n = 266 then 153 else if n = 314 then 163 else n, fun n => if n = 9 then 9 else if n = 31 then 46 else if n = 3 then 3 else if n = 4 then 4 else if n = 0 then 0 else if n = 105 then 145 else if n = 21 then 21 else if n = 5 then 5 else if n = 46 then 67 else if n = 119 then 173 else if n = 139 then 176 else if n = 138 then 175 else if n = 146 then 188 else if n = 51 then 187 else n, fun n => if n = 1 then 0 else if n = 3 then 1 else if n = 4 then 2 else n⟩
theorem lays_n146 : LaysM.n146 Tryd.prog ren_n146 where
  mixed := by kernel_rfl
  f138 := by kernel_rfl
  f143 := by kernel_rfl
  f146 := by kernel_rfl
  f195 := by kernel_rfl
  f197 := by kernel_rfl
  f217 := by kernel_rfl
  f218 := by kernel_rfl
  f219 := by kernel_rfl
  f221 := by kernel_rfl
  f224 := by kernel_rfl
  f225 := by kernel_rfl
  f260 := by kernel_rfl
  f266 := by kernel_rfl
  f267 := by kernel_rfl
  f268 := by kernel_rfl
  f314 := by kernel_rfl
  t0 := Tryd.underlying0
  a0 := Tryd.isAgg0
  z0 := Tryd.sizeOf0
  v0 := Tryd.zeroValue0
  t3 := Tryd.underlying3
  a3 := Tryd.isAgg3
  z3 := Tryd.sizeOf3
  v3 := Tryd.zeroValue3
  t4 := Tryd.underlying4
  a4 := Tryd.isAgg4
  z4 := Tryd.sizeOf4
  v4 := Tryd.zeroValue4
  t5 := Tryd.underlying5
  a5 := Tryd.isAgg5
  z5 := Tryd.sizeOf5
  v5 := Tryd.zeroValue5
  t9 := Tryd.underlying9
  a9 := Tryd.isAgg9
  z9 := Tryd.sizeOf9
  v9 := Tryd.zeroValue9
  t21 := Tryd.underlying21
  a21 := Tryd.isAgg21
  z21 := Tryd.sizeOf21
  v21 := Tryd.zeroValue21
  t31 := Tryd.underlying46
  a31 := Tryd.isAgg46
  z31 := Tryd.sizeOf46
  v31 := Tryd.zeroValue46
  t46 := Tryd.underlying67
  a46 := Tryd.isAgg67
  z46 := Tryd.sizeOf67
  v46 := Tryd.zeroValue67
  t51 := Tryd.underlying187
  a51 := Tryd.isAgg187
  z51 := Tryd.sizeOf187
  v51 := Tryd.zeroValue187
  t105 := Tryd.underlying145
  a105 := Tryd.isAgg145
  z105 := Tryd.sizeOf145
  v105 := Tryd.zeroValue145
  t119 := Tryd.underlying173
  a119 := Tryd.isAgg173
  z119 := Tryd.sizeOf173
  t138 := Tryd.underlying175
  a138 := Tryd.isAgg175
  z138 := Tryd.sizeOf175
  v138 := Tryd.zeroValue175
  t139 := Tryd.underlying176
  a139 := Tryd.isAgg176
  z139 := Tryd.sizeOf176
  v139 := Tryd.zeroValue176
  t146 := Tryd.underlying188
  a146 := Tryd.isAgg188
  z146 := Tryd.sizeOf188
  v146 := Tryd.zeroValue188
  g1 := by kernel_rfl
  g3 := by kernel_rfl
  g4 := by kernel_rfl
  i0 := by kernel_rfl
  i3 := by kernel_rfl
  i4 := by kernel_rfl
  i5 := by kernel_rfl
  i9 := by kernel_rfl
  i21 := by kernel_rfl
  i31 := by kernel_rfl
  i46 := by kernel_rfl
  i51 := by kernel_rfl
  i105 := by kernel_rfl
  i138 := by kernel_rfl
  i139 := by kernel_rfl
  i146 := by kernel_rfl
  m1 := by kernel_rfl
  s1_3 := fun w h => Go.Proofs.cell_of_shapedOpen_int (zero := #[.int .i64 0]) (t := 3) h (of_decide_eq_true (by kernel_rfl)) (by kernel_rfl) rfl (by kernel_rfl) (by kernel_rfl) Tryd.underlying3
  m3 := by kernel_rfl
  m4 := by kernel_rfl
def ren_n102 : Go.Shelf.Ren := ⟨fun n => if n = 102 then 58 else if n = 209 then 102 else if n = 207 then 128 else n, fun n => if n = 9 then 9 else if n = 4 then 4 else if n = 3 then 3 else n, fun n => n⟩
theorem lays_n102 : Lays.n102 Tryd.prog ren_n102 where
  mixed := by kernel_rfl
  f102 := by kernel_rfl
  f207 := by kernel_rfl
  f209 := by kernel_rfl
  t3 := Tryd.underlying3
  a3 := Tryd.isAgg3
  z3 := Tryd.sizeOf3
  v3 := Tryd.zeroValue3
  t4 := Tryd.underlying4
  a4 := Tryd.isAgg4
  z4 := Tryd.sizeOf4
  v4 := Tryd.zeroValue4
  t9 := Tryd.underlying9
  a9 := Tryd.isAgg9
  z9 := Tryd.sizeOf9
  v9 := Tryd.zeroValue9
theorem tab_ok : okTab Tryd.prog R (Code.gs ++ Code.tab) = true := by kernel_rfl
theorem tab_plain : (Code.tab.all fun p => p.2.given.isNone) = true := by kernel_rfl
theorem known : ∀ p ∈ Code.gs, ∀ o, p.2.given = some o → Known Tryd.prog R (Kn.max 0) (R p.1) o := by
  intro p hp o ho
  simp only [Code.gs, List.mem_cons, List.mem_nil_iff, or_false] at hp
  rcases hp with rfl | rfl | rfl
  · cases ho; exact Known.indexByte lays_n137 (by kernel_rfl)
  · cases ho; exact Known.split lays_n146 (by kernel_rfl) (fun w h => h)
  · cases ho; exact Known.trimSuffix lays_n102 (by kernel_rfl)
theorem table : Table Tryd.prog R (Kn.max 0) G := table_of tab_ok tab_plain known
end Go.DM
