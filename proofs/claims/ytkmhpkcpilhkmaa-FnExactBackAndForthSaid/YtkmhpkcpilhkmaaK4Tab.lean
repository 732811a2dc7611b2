/- The table of functions is the program's: by computation. By gen.py. -/
import Derived.Test.YtkmhpkcpilhkmaaK4Given
import Derived.Test.YtkmhpkcpilhkmaaK4Code
import Derived.Test.YtkmhpkcpilhkmaaK4Known
import Derived.Test.YtkmhpkcpilhkmaaProg
import Derived.KernelRfl
namespace Go.DM
open Go.Proofs
def ren_n137 : Go.Shelf.Ren := ⟨fun n => if n = 137 then 154 else if n = 217 then 168 else if n = 266 then 171 else n, fun n => if n = 9 then 9 else if n = 5 then 5 else if n = 3 then 3 else n, fun n => n⟩
theorem lays_n137 : Lays.n137 Try.prog ren_n137 where
  mixed := by kernel_rfl
  f137 := by kernel_rfl
  f217 := by kernel_rfl
  f266 := by kernel_rfl
  t3 := Try.underlying3
  a3 := Try.isAgg3
  z3 := Try.sizeOf3
  v3 := Try.zeroValue3
  t5 := Try.underlying5
  a5 := Try.isAgg5
  z5 := Try.sizeOf5
  v5 := Try.zeroValue5
  t9 := Try.underlying9
  a9 := Try.isAgg9
  z9 := Try.sizeOf9
  v9 := Try.zeroValue9
def ren_n105 : Go.Shelf.Ren := ⟨fun n => if n = 105 then 69 else if n = 212 then 117 else if n = 99 then 118 else if n = 165 then 119 else if n = 166 then 120 else if n = 170 then 121 else if n = 169 then 122 else if n = 263 then 158 else if n = 264 then 159 else if n = 206 then 160 else if n = 240 then 161 else if n = 241 then 162 else if n = 276 then 169 else if n = 277 then 170 else n, fun n => if n = 9 then 9 else if n = 3 then 3 else if n = 4 then 4 else if n = 20 then 20 else if n = 0 then 0 else if n = 46 then 142 else if n = 109 then 143 else if n = 5 then 5 else if n = 72 then 149 else if n = 76 then 153 else if n = 51 then 179 else if n = 146 then 180 else if n = 53 then 182 else if n = 148 then 183 else if n = 70 then 146 else if n = 37 then 147 else if n = 75 then 152 else if n = 127 then 185 else if n = 164 then 187 else if n = 80 then 156 else n, fun n => n⟩
theorem lays_n105 : Lays.n105 Try.prog ren_n105 where
  mixed := by kernel_rfl
  f99 := by kernel_rfl
  f105 := by kernel_rfl
  f165 := by kernel_rfl
  f166 := by kernel_rfl
  f169 := by kernel_rfl
  f170 := by kernel_rfl
  f206 := by kernel_rfl
  f212 := by kernel_rfl
  f240 := by kernel_rfl
  f241 := by kernel_rfl
  f263 := by kernel_rfl
  f264 := by kernel_rfl
  f276 := by kernel_rfl
  f277 := by kernel_rfl
  t0 := Try.underlying0
  a0 := Try.isAgg0
  z0 := Try.sizeOf0
  v0 := Try.zeroValue0
  t3 := Try.underlying3
  a3 := Try.isAgg3
  z3 := Try.sizeOf3
  v3 := Try.zeroValue3
  t4 := Try.underlying4
  a4 := Try.isAgg4
  z4 := Try.sizeOf4
  v4 := Try.zeroValue4
  t5 := Try.underlying5
  a5 := Try.isAgg5
  z5 := Try.sizeOf5
  v5 := Try.zeroValue5
  t9 := Try.underlying9
  a9 := Try.isAgg9
  z9 := Try.sizeOf9
  v9 := Try.zeroValue9
  t20 := Try.underlying20
  a20 := Try.isAgg20
  z20 := Try.sizeOf20
  v20 := Try.zeroValue20
  t37 := Try.underlying147
  a37 := Try.isAgg147
  z37 := Try.sizeOf147
  v37 := Try.zeroValue147
  t46 := Try.underlying142
  a46 := Try.isAgg142
  z46 := Try.sizeOf142
  v46 := Try.zeroValue142
  t51 := Try.underlying179
  a51 := Try.isAgg179
  z51 := Try.sizeOf179
  v51 := Try.zeroValue179
  t53 := Try.underlying182
  a53 := Try.isAgg182
  z53 := Try.sizeOf182
  v53 := Try.zeroValue182
  t70 := Try.underlying146
  a70 := Try.isAgg146
  z70 := Try.sizeOf146
  v70 := Try.zeroValue146
  t72 := Try.underlying149
  a72 := Try.isAgg149
  z72 := Try.sizeOf149
  v72 := Try.zeroValue149
  t75 := Try.underlying152
  a75 := Try.isAgg152
  z75 := Try.sizeOf152
  v75 := Try.zeroValue152
  t76 := Try.underlying153
  a76 := Try.isAgg153
  z76 := Try.sizeOf153
  v76 := Try.zeroValue153
  t109 := Try.underlying143
  a109 := Try.isAgg143
  z109 := Try.sizeOf143
  v109 := Try.zeroValue143
  t127 := Try.underlying185
  a127 := Try.isAgg185
  z127 := Try.sizeOf185
  v127 := Try.zeroValue185
  t146 := Try.underlying180
  a146 := Try.isAgg180
  z146 := Try.sizeOf180
  v146 := Try.zeroValue180
  t148 := Try.underlying183
  a148 := Try.isAgg183
  z148 := Try.sizeOf183
  v148 := Try.zeroValue183
  t164 := Try.underlying187
  a164 := Try.isAgg187
  z164 := Try.sizeOf187
  v164 := Try.zeroValue187
theorem extra_n105 : Builder.Extra Try.prog ren_n105 where
  sizeBuilder := by kernel_rfl
  liesBuilder := by kernel_rfl
  t5 := Try.underlying5
  a5 := Try.isAgg5
  z5 := Try.sizeOf5
  v5 := Try.zeroValue5
  infoByte := by kernel_rfl
  cellsByte := by kernel_rfl
  sizeByte := by kernel_rfl
  neB5 := by decide
theorem tab_ok : okTab Try.prog R (Code.gs ++ Code.tab) = true := by kernel_rfl
theorem tab_plain : (Code.tab.all fun p => p.2.given.isNone) = true := by kernel_rfl
theorem known : ∀ p ∈ Code.gs, ∀ o, p.2.given = some o → Known Try.prog R (R p.1) o := by
  intro p hp o ho
  simp only [Code.gs, List.mem_cons, List.mem_nil_iff, or_false] at hp
  rcases hp with rfl | rfl
  · cases ho; exact Known.indexByte lays_n137 (by kernel_rfl)
  · cases ho; exact Known.repeat_ lays_n105 extra_n105 (by kernel_rfl)
theorem table : Table Try.prog R G := table_of tab_ok tab_plain known
end Go.DM
