/- The table of functions is the program's: by computation. By gen.py. -/
import Derived.Test.YtppmmeciihmnjaaDoorK280Given
import Derived.Test.YtppmmeciihmnjaaDoorK280Code
import Derived.Test.YtppmmeciihmnjaaDoorK280Known
import Derived.Test.YtppmmeciihmnjaaDoorProg
import Derived.KernelRfl
namespace Go.DM
open Go.Proofs
def ren_n137 : Go.Shelf.Ren := ⟨fun n => if n = 137 then 121 else if n = 217 then 140 else if n = 266 then 153 else n, fun n => if n = 9 then 9 else if n = 5 then 5 else if n = 3 then 3 else n, fun n => n⟩
theorem lays_n137 : Lays.n137 Tryd.prog ren_n137 where
  mixed := by kernel_rfl
  f137 := by kernel_rfl
  f217 := by kernel_rfl
  f266 := by kernel_rfl
  t3 := Tryd.underlying3
  a3 := Tryd.isAgg3
  z3 := Tryd.sizeOf3
  v3 := Tryd.zeroValue3
  t5 := Tryd.underlying5
  a5 := Tryd.isAgg5
  z5 := Tryd.sizeOf5
  v5 := Tryd.zeroValue5
  t9 := Tryd.underlying9
  a9 := Tryd.isAgg9
  z9 := Tryd.sizeOf9
  v9 := Tryd.zeroValue9
def ren_n160 : Go.Shelf.Ren := ⟨fun n => if n = 160 then 48 else if n = 232 then 90 else if n = 231 then 89 else if n = 227 then 91 else if n = 234 then 93 else if n = 233 then 92 else if n = 236 then 95 else if n = 235 then 94 else if n = 228 then 117 else if n = 271 then 119 else if n = 151 then 118 else if n = 197 then 113 else if n = 120 then 139 else if n = 152 then 138 else if n = 260 then 137 else if n = 137 then 121 else if n = 119 then 152 else if n = 224 then 150 else if n = 225 then 149 else if n = 217 then 140 else if n = 266 then 153 else n, fun n => if n = 9 then 9 else if n = 4 then 4 else if n = 3 then 3 else if n = 5 then 5 else if n = 117 then 117 else if n = 116 then 116 else if n = 0 then 0 else if n = 124 then 120 else if n = 21 then 21 else if n = 105 then 145 else if n = 46 then 67 else if n = 119 then 173 else if n = 139 then 176 else if n = 138 then 175 else n, fun n => if n = 3 then 1 else if n = 4 then 2 else n⟩
theorem lays_n160 : Lays.n160 Tryd.prog ren_n160 where
  mixed := by kernel_rfl
  f119 := by kernel_rfl
  f120 := by kernel_rfl
  f137 := by kernel_rfl
  f151 := by kernel_rfl
  f152 := by kernel_rfl
  f160 := by kernel_rfl
  f197 := by kernel_rfl
  f217 := by kernel_rfl
  f224 := by kernel_rfl
  f225 := by kernel_rfl
  f227 := by kernel_rfl
  f228 := by kernel_rfl
  f231 := by kernel_rfl
  f232 := by kernel_rfl
  f233 := by kernel_rfl
  f234 := by kernel_rfl
  f235 := by kernel_rfl
  f236 := by kernel_rfl
  f260 := by kernel_rfl
  f266 := by kernel_rfl
  f271 := by kernel_rfl
  t0 := Tryd.underlying0
  a0 := Tryd.isAgg0
  z0 := Tryd.sizeOf0
  v0 := Tryd.zeroValue0
  t3 := Tryd.underlying3
  a3 := Tryd.isAgg3
  z3 := Tryd.sizeOf3
  v3 := Tryd.zeroValue3
  t4 := Tryd.underlying4
  a4 := Tryd.isAgg4
  z4 := Tryd.sizeOf4
  v4 := Tryd.zeroValue4
  t5 := Tryd.underlying5
  a5 := Tryd.isAgg5
  z5 := Tryd.sizeOf5
  v5 := Tryd.zeroValue5
  t9 := Tryd.underlying9
  a9 := Tryd.isAgg9
  z9 := Tryd.sizeOf9
  v9 := Tryd.zeroValue9
  t21 := Tryd.underlying21
  a21 := Tryd.isAgg21
  z21 := Tryd.sizeOf21
  v21 := Tryd.zeroValue21
  t46 := Tryd.underlying67
  a46 := Tryd.isAgg67
  z46 := Tryd.sizeOf67
  v46 := Tryd.zeroValue67
  t105 := Tryd.underlying145
  a105 := Tryd.isAgg145
  z105 := Tryd.sizeOf145
  v105 := Tryd.zeroValue145
  t116 := Tryd.underlying116
  a116 := Tryd.isAgg116
  z116 := Tryd.sizeOf116
  t117 := Tryd.underlying117
  a117 := Tryd.isAgg117
  z117 := Tryd.sizeOf117
  v117 := Tryd.zeroValue117
  t119 := Tryd.underlying173
  a119 := Tryd.isAgg173
  z119 := Tryd.sizeOf173
  t124 := Tryd.underlying120
  a124 := Tryd.isAgg120
  z124 := Tryd.sizeOf120
  v124 := Tryd.zeroValue120
  t138 := Tryd.underlying175
  a138 := Tryd.isAgg175
  z138 := Tryd.sizeOf175
  v138 := Tryd.zeroValue175
  t139 := Tryd.underlying176
  a139 := Tryd.isAgg176
  z139 := Tryd.sizeOf176
  v139 := Tryd.zeroValue176
  g3 := by kernel_rfl
  g4 := by kernel_rfl
theorem h116_n160 : (Tryd.prog.info? (ren_n160.t 116)).map (fun i => (i.zero, i.size)) = some (some (.agg (Array.replicate 256 (.bool false))), 256) := by kernel_rfl
theorem tab_ok : okTab Tryd.prog R (Code.gs ++ Code.tab) = true := by kernel_rfl
theorem tab_plain : (Code.tab.all fun p => p.2.given.isNone) = true := by kernel_rfl
theorem known : ∀ p ∈ Code.gs, ∀ o, p.2.given = some o → Known Tryd.prog R Kn.none (R p.1) o := by
  intro p hp o ho
  simp only [Code.gs, List.mem_cons, List.mem_nil_iff, or_false] at hp
  rcases hp with rfl | rfl
  · cases ho; exact Known.indexByte lays_n137 (by kernel_rfl)
  · cases ho; exact Known.trim lays_n160 h116_n160 (by kernel_rfl)
theorem table : Table Tryd.prog R Kn.none G := table_of tab_ok tab_plain known
end Go.DM
