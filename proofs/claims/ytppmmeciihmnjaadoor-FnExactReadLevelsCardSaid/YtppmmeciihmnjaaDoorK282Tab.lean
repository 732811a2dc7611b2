/- The table of functions is the program's: by computation. By gen.py. -/
import Derived.Test.YtppmmeciihmnjaaDoorK282Given
import Derived.Test.YtppmmeciihmnjaaDoorK282Code
import Derived.Test.YtppmmeciihmnjaaDoorK282Known
import Derived.Shelf.Strconv.ParseIntPublic10
import Derived.WalkKit
import Derived.BigCall
import Derived.Shelf.Strings.FieldsFuncGrows
import Derived.WalkMore
import Derived.Below
import Derived.Test.YtppmmeciihmnjaaDoorProg
import Derived.KernelRfl
namespace Go.DM
open Go.Proofs
def ren_n173 : Go.Shelf.Ren := ⟨fun n => if n = 173 then 131 else if n = 246 then 146 else if n = 283 then 159 else if n = 284 then 160 else if n = 285 then 161 else if n = 286 then 162 else if n = 129 then 166 else if n = 317 then 165 else if n = 318 then 167 else if n = 319 then 168 else if n = 320 then 169 else if n = 337 then 170 else if n = 338 then 171 else n, fun n => if n = 2 then 2 else if n = 3 then 3 else if n = 9 then 9 else if n = 4 then 4 else if n = 171 then 182 else if n = 0 then 0 else if n = 53 then 163 else if n = 37 then 126 else if n = 5 then 5 else if n = 173 then 185 else if n = 212 then 194 else if n = 51 then 187 else if n = 20 then 20 else if n = 213 then 195 else if n = 46 then 67 else if n = 232 then 199 else if n = 233 then 200 else n, fun n => if n = 17 then 5 else if n = 18 then 6 else if n = 19 then 7 else n⟩
theorem lays_n173 : LaysM.n173 Tryd.prog ren_n173 where
  mixed := by kernel_rfl
  f129 := by kernel_rfl
  f173 := by kernel_rfl
  f246 := by kernel_rfl
  f283 := by kernel_rfl
  f284 := by kernel_rfl
  f285 := by kernel_rfl
  f286 := by kernel_rfl
  f317 := by kernel_rfl
  f318 := by kernel_rfl
  f319 := by kernel_rfl
  f320 := by kernel_rfl
  f337 := by kernel_rfl
  f338 := by kernel_rfl
  t0 := Tryd.underlying0
  a0 := Tryd.isAgg0
  z0 := Tryd.sizeOf0
  v0 := Tryd.zeroValue0
  t2 := Tryd.underlying2
  a2 := Tryd.isAgg2
  z2 := Tryd.sizeOf2
  v2 := Tryd.zeroValue2
  t3 := Tryd.underlying3
  a3 := Tryd.isAgg3
  z3 := Tryd.sizeOf3
  v3 := Tryd.zeroValue3
  t4 := Tryd.underlying4
  a4 := Tryd.isAgg4
  z4 := Tryd.sizeOf4
  v4 := Tryd.zeroValue4
  t5 := Tryd.underlying5
  a5 := Tryd.isAgg5
  z5 := Tryd.sizeOf5
  v5 := Tryd.zeroValue5
  t9 := Tryd.underlying9
  a9 := Tryd.isAgg9
  z9 := Tryd.sizeOf9
  v9 := Tryd.zeroValue9
  t20 := Tryd.underlying20
  a20 := Tryd.isAgg20
  z20 := Tryd.sizeOf20
  v20 := Tryd.zeroValue20
  t37 := Tryd.underlying126
  a37 := Tryd.isAgg126
  z37 := Tryd.sizeOf126
  v37 := Tryd.zeroValue126
  t46 := Tryd.underlying67
  a46 := Tryd.isAgg67
  z46 := Tryd.sizeOf67
  v46 := Tryd.zeroValue67
  t51 := Tryd.underlying187
  a51 := Tryd.isAgg187
  z51 := Tryd.sizeOf187
  v51 := Tryd.zeroValue187
  t53 := Tryd.underlying163
  a53 := Tryd.isAgg163
  z53 := Tryd.sizeOf163
  v53 := Tryd.zeroValue163
  t171 := Tryd.underlying182
  a171 := Tryd.isAgg182
  z171 := Tryd.sizeOf182
  v171 := Tryd.zeroValue182
  t173 := Tryd.underlying185
  a173 := Tryd.isAgg185
  z173 := Tryd.sizeOf185
  v173 := Tryd.zeroValue185
  t212 := Tryd.underlying194
  a212 := Tryd.isAgg194
  z212 := Tryd.sizeOf194
  v212 := Tryd.zeroValue194
  t213 := Tryd.underlying195
  a213 := Tryd.isAgg195
  z213 := Tryd.sizeOf195
  t232 := Tryd.underlying199
  a232 := Tryd.isAgg199
  z232 := Tryd.sizeOf199
  v232 := Tryd.zeroValue199
  t233 := Tryd.underlying200
  a233 := Tryd.isAgg200
  z233 := Tryd.sizeOf200
  v233 := Tryd.zeroValue200
  g17 := by kernel_rfl
  g18 := by kernel_rfl
  g19 := by kernel_rfl
  i0 := by kernel_rfl
  i2 := by kernel_rfl
  i3 := by kernel_rfl
  i4 := by kernel_rfl
  i5 := by kernel_rfl
  i9 := by kernel_rfl
  i20 := by kernel_rfl
  i37 := by kernel_rfl
  i46 := by kernel_rfl
  i51 := by kernel_rfl
  i53 := by kernel_rfl
  i171 := by kernel_rfl
  i173 := by kernel_rfl
  i212 := by kernel_rfl
  i232 := by kernel_rfl
  i233 := by kernel_rfl
  m17 := by kernel_rfl
  m18 := by kernel_rfl
  m19 := by kernel_rfl
def ren_n174 : Go.Shelf.Ren := ⟨fun n => if n = 174 then 105 else if n = 247 then 129 else if n = 245 then 130 else if n = 287 then 141 else if n = 279 then 142 else if n = 280 then 143 else if n = 281 then 144 else if n = 282 then 145 else if n = 321 then 154 else if n = 322 then 155 else if n = 316 then 156 else if n = 171 then 158 else if n = 205 then 157 else if n = 243 then 164 else if n = 246 then 146 else if n = 283 then 159 else if n = 284 then 160 else if n = 285 then 161 else if n = 286 then 162 else if n = 129 then 166 else if n = 317 then 165 else if n = 318 then 167 else if n = 319 then 168 else if n = 320 then 169 else if n = 337 then 170 else if n = 338 then 171 else n, fun n => if n = 9 then 9 else if n = 3 then 3 else if n = 2 then 2 else if n = 75 then 133 else if n = 85 then 134 else if n = 4 then 4 else if n = 167 then 162 else if n = 5 then 5 else if n = 53 then 163 else if n = 175 then 164 else if n = 46 then 67 else if n = 168 then 166 else if n = 37 then 126 else if n = 0 then 0 else if n = 210 then 180 else if n = 21 then 21 else if n = 127 then 160 else if n = 145 then 192 else if n = 143 then 190 else if n = 171 then 182 else if n = 173 then 185 else if n = 212 then 194 else if n = 51 then 187 else if n = 20 then 20 else if n = 213 then 195 else if n = 232 then 199 else if n = 233 then 200 else if n = 80 then 147 else n, fun n => if n = 15 then 3 else if n = 16 then 4 else if n = 17 then 5 else if n = 18 then 6 else if n = 19 then 7 else n⟩
theorem lays_n174 : LaysC.n174 Tryd.prog ren_n174 where
  mixed := by kernel_rfl
  f129 := by kernel_rfl
  f171 := by kernel_rfl
  f174 := by kernel_rfl
  f205 := by kernel_rfl
  f243 := by kernel_rfl
  f245 := by kernel_rfl
  f246 := by kernel_rfl
  f247 := by kernel_rfl
  f279 := by kernel_rfl
  f280 := by kernel_rfl
  f281 := by kernel_rfl
  f282 := by kernel_rfl
  f283 := by kernel_rfl
  f284 := by kernel_rfl
  f285 := by kernel_rfl
  f286 := by kernel_rfl
  f287 := by kernel_rfl
  f316 := by kernel_rfl
  f317 := by kernel_rfl
  f318 := by kernel_rfl
  f319 := by kernel_rfl
  f320 := by kernel_rfl
  f321 := by kernel_rfl
  f322 := by kernel_rfl
  f337 := by kernel_rfl
  f338 := by kernel_rfl
  t0 := Tryd.underlying0
  a0 := Tryd.isAgg0
  z0 := Tryd.sizeOf0
  v0 := Tryd.zeroValue0
  t2 := Tryd.underlying2
  a2 := Tryd.isAgg2
  z2 := Tryd.sizeOf2
  v2 := Tryd.zeroValue2
  t3 := Tryd.underlying3
  a3 := Tryd.isAgg3
  z3 := Tryd.sizeOf3
  v3 := Tryd.zeroValue3
  t4 := Tryd.underlying4
  a4 := Tryd.isAgg4
  z4 := Tryd.sizeOf4
  v4 := Tryd.zeroValue4
  t5 := Tryd.underlying5
  a5 := Tryd.isAgg5
  z5 := Tryd.sizeOf5
  v5 := Tryd.zeroValue5
  t9 := Tryd.underlying9
  a9 := Tryd.isAgg9
  z9 := Tryd.sizeOf9
  v9 := Tryd.zeroValue9
  t20 := Tryd.underlying20
  a20 := Tryd.isAgg20
  z20 := Tryd.sizeOf20
  v20 := Tryd.zeroValue20
  t21 := Tryd.underlying21
  a21 := Tryd.isAgg21
  z21 := Tryd.sizeOf21
  v21 := Tryd.zeroValue21
  t37 := Tryd.underlying126
  a37 := Tryd.isAgg126
  z37 := Tryd.sizeOf126
  v37 := Tryd.zeroValue126
  t46 := Tryd.underlying67
  a46 := Tryd.isAgg67
  z46 := Tryd.sizeOf67
  v46 := Tryd.zeroValue67
  t51 := Tryd.underlying187
  a51 := Tryd.isAgg187
  z51 := Tryd.sizeOf187
  v51 := Tryd.zeroValue187
  t53 := Tryd.underlying163
  a53 := Tryd.isAgg163
  z53 := Tryd.sizeOf163
  v53 := Tryd.zeroValue163
  t75 := Tryd.underlying133
  a75 := Tryd.isAgg133
  z75 := Tryd.sizeOf133
  v75 := Tryd.zeroValue133
  t85 := Tryd.underlying134
  a85 := Tryd.isAgg134
  z85 := Tryd.sizeOf134
  v85 := Tryd.zeroValue134
  t127 := Tryd.underlying160
  a127 := Tryd.isAgg160
  z127 := Tryd.sizeOf160
  v127 := Tryd.zeroValue160
  t143 := Tryd.underlying190
  a143 := Tryd.isAgg190
  z143 := Tryd.sizeOf190
  v143 := Tryd.zeroValue190
  t145 := Tryd.underlying192
  a145 := Tryd.isAgg192
  z145 := Tryd.sizeOf192
  v145 := Tryd.zeroValue192
  t167 := Tryd.underlying162
  a167 := Tryd.isAgg162
  z167 := Tryd.sizeOf162
  v167 := Tryd.zeroValue162
  t168 := Tryd.underlying166
  a168 := Tryd.isAgg166
  z168 := Tryd.sizeOf166
  v168 := Tryd.zeroValue166
  t171 := Tryd.underlying182
  a171 := Tryd.isAgg182
  z171 := Tryd.sizeOf182
  v171 := Tryd.zeroValue182
  t173 := Tryd.underlying185
  a173 := Tryd.isAgg185
  z173 := Tryd.sizeOf185
  v173 := Tryd.zeroValue185
  t175 := Tryd.underlying164
  a175 := Tryd.isAgg164
  z175 := Tryd.sizeOf164
  v175 := Tryd.zeroValue164
  t210 := Tryd.underlying180
  a210 := Tryd.isAgg180
  z210 := Tryd.sizeOf180
  v210 := Tryd.zeroValue180
  t212 := Tryd.underlying194
  a212 := Tryd.isAgg194
  z212 := Tryd.sizeOf194
  v212 := Tryd.zeroValue194
  t213 := Tryd.underlying195
  a213 := Tryd.isAgg195
  z213 := Tryd.sizeOf195
  t232 := Tryd.underlying199
  a232 := Tryd.isAgg199
  z232 := Tryd.sizeOf199
  v232 := Tryd.zeroValue199
  t233 := Tryd.underlying200
  a233 := Tryd.isAgg200
  z233 := Tryd.sizeOf200
  v233 := Tryd.zeroValue200
  g15 := by kernel_rfl
  g16 := by kernel_rfl
  g17 := by kernel_rfl
  g18 := by kernel_rfl
  g19 := by kernel_rfl
  t80 := Tryd.underlying147
  a80 := Tryd.isAgg147
  z80 := Tryd.sizeOf147
  v80 := Tryd.zeroValue147
  i0 := by kernel_rfl
  i2 := by kernel_rfl
  i3 := by kernel_rfl
  i4 := by kernel_rfl
  i5 := by kernel_rfl
  i9 := by kernel_rfl
  i20 := by kernel_rfl
  i21 := by kernel_rfl
  i37 := by kernel_rfl
  i46 := by kernel_rfl
  i51 := by kernel_rfl
  i53 := by kernel_rfl
  i75 := by kernel_rfl
  i80 := by kernel_rfl
  i85 := by kernel_rfl
  i127 := by kernel_rfl
  i143 := by kernel_rfl
  i145 := by kernel_rfl
  i167 := by kernel_rfl
  i168 := by kernel_rfl
  i171 := by kernel_rfl
  i173 := by kernel_rfl
  i175 := by kernel_rfl
  i210 := by kernel_rfl
  i212 := by kernel_rfl
  i232 := by kernel_rfl
  i233 := by kernel_rfl
  m15 := by kernel_rfl
  m16 := by kernel_rfl
  m17 := by kernel_rfl
  m18 := by kernel_rfl
  m19 := by kernel_rfl
  c0 := by kernel_rfl
  c2 := by kernel_rfl
  c3 := by kernel_rfl
  c4 := by kernel_rfl
  c5 := by kernel_rfl
  c9 := by kernel_rfl
  c20 := by kernel_rfl
  c21 := by kernel_rfl
  c37 := by kernel_rfl
  c46 := by kernel_rfl
  c51 := by kernel_rfl
  c53 := by kernel_rfl
  c75 := by kernel_rfl
  c80 := by kernel_rfl
  c85 := by kernel_rfl
  c127 := by kernel_rfl
  c143 := by kernel_rfl
  c145 := by kernel_rfl
  c167 := by kernel_rfl
  c168 := by kernel_rfl
  c171 := by kernel_rfl
  c173 := by kernel_rfl
  c175 := by kernel_rfl
  c210 := by kernel_rfl
  c212 := by kernel_rfl
  c213 := by kernel_rfl
  c232 := by kernel_rfl
  c233 := by kernel_rfl
def ren_n229 : Go.Shelf.Ren := ⟨fun n => if n = 229 then 64 else n, fun n => if n = 9 then 9 else if n = 40 then 99 else if n = 31 then 46 else if n = 152 then 129 else if n = 3 then 3 else if n = 0 then 0 else if n = 4 then 4 else if n = 21 then 21 else if n = 154 then 131 else n, fun n => n⟩
theorem lays_n229 : Lays.n229 Tryd.prog ren_n229 where
  mixed := by kernel_rfl
  f229 := by kernel_rfl
  t0 := Tryd.underlying0
  a0 := Tryd.isAgg0
  z0 := Tryd.sizeOf0
  v0 := Tryd.zeroValue0
  t3 := Tryd.underlying3
  a3 := Tryd.isAgg3
  z3 := Tryd.sizeOf3
  v3 := Tryd.zeroValue3
  t4 := Tryd.underlying4
  a4 := Tryd.isAgg4
  z4 := Tryd.sizeOf4
  v4 := Tryd.zeroValue4
  t9 := Tryd.underlying9
  a9 := Tryd.isAgg9
  z9 := Tryd.sizeOf9
  v9 := Tryd.zeroValue9
  t21 := Tryd.underlying21
  a21 := Tryd.isAgg21
  z21 := Tryd.sizeOf21
  v21 := Tryd.zeroValue21
  t31 := Tryd.underlying46
  a31 := Tryd.isAgg46
  z31 := Tryd.sizeOf46
  v31 := Tryd.zeroValue46
  t40 := Tryd.underlying99
  a40 := Tryd.isAgg99
  z40 := Tryd.sizeOf99
  v40 := Tryd.zeroValue99
  t152 := Tryd.underlying129
  a152 := Tryd.isAgg129
  z152 := Tryd.sizeOf129
  v152 := Tryd.zeroValue129
  t154 := Tryd.underlying131
  a154 := Tryd.isAgg131
  z154 := Tryd.sizeOf131
  v154 := Tryd.zeroValue131
section
open Go.Shelf Go.RowKit
set_option maxRecDepth 100000 in
theorem number_walk (s : ByteArray) (w : World) (hs : s.size ≤ 2000000) (h1 : Go.DM.errAt 3 w) (h2 : Go.DM.errAt 4 w) :
    Go.Calls Tryd.prog 66 #[.string s] w fun e w' => e = .returned (.int .i64 (Go.DM.numL s.data.toList)) ∧ Go.RowKit.Below w.heap.size w w' := by
  obtain ⟨ev1, hv1, he1⟩ := h1
  obtain ⟨ev2, hv2, he2⟩ := h2
  cases h : Lib.parseIntB 64 s.data.toList
  · rename_i v
    have hn : Go.DM.numL s.data.toList = v := by unfold Go.DM.numL; rw [h]
    go_enter Tryd.func66, Tryd.ntmps66
    go_wp2_with (go_at_call 105; refine (Any.strconv_ParseInt_10_at64_ok lays_n174 s (by omega) v h _).mono ?_; rintro e w' ⟨rfl, hw⟩)
    go_ret
    rw [hn]
    refine ⟨rfl, ?_⟩
    rcases hw with rfl | ⟨t, rfl⟩
    · exact Go.RowKit.Below.refl _ _
    · exact Lib.bytesWorld_below _ _ _
  · have hn : Go.DM.numL s.data.toList = -1000 := by unfold Go.DM.numL; rw [h]
    go_enter Tryd.func66, Tryd.ntmps66
    go_wp2_with (go_at_call 105; refine (Any.strconv_ParseInt_10_at64_syntax lays_n174 s (by omega) h ev1 _ ?_ he1).mono ?_)
    · exact hv1
    rintro e W1 ⟨N, rfl, -, -, hb⟩
    go_wp2
    go_ret
    rw [hn]
    exact ⟨rfl, hb⟩
  · have hn : Go.DM.numL s.data.toList = -1000 := by unfold Go.DM.numL; rw [h]
    go_enter Tryd.func66, Tryd.ntmps66
    go_wp2_with (go_at_call 105; refine (Any.strconv_ParseInt_10_at64_range lays_n174 s (by omega) h ev2 _ ?_ he2).mono ?_)
    · exact hv2
    rintro e W1 ⟨N, rfl, -, -, hb⟩
    go_wp2
    go_ret
    rw [hn]
    exact ⟨rfl, hb⟩
end
section
open Go.Shelf Go.RowKit
theorem pred_walk (w : World) : PredGrows Tryd.prog 65 #[] spP w := by
  intro W x hx hb
  show Go.Calls Tryd.prog 65 #[.int .i32 (x : Int)] W _
  unfold spP
  by_cases h1 : x = 32
  · subst h1
    go_enter Tryd.func65, Tryd.ntmps65
    go_wp2
    go_ret
    exact ⟨rfl, Below.refl _ _⟩
  · by_cases h2 : x = 10
    · subst h2
      go_enter Tryd.func65, Tryd.ntmps65
      go_wp2
      go_ret
      exact ⟨rfl, Below.refl _ _⟩
    · have e1 : ((x : Int) == 32) = false := by simpa using (by omega : ¬ (x : Int) = 32)
      have e2 : ((x : Int) == 10) = false := by simpa using (by omega : ¬ (x : Int) = 10)
      have e3 : (x == 32 || x == 10) = false := by simp [h1, h2]
      rw [e3]
      go_enter Tryd.func65, Tryd.ntmps65
      go_wp2
      go_ret
      exact ⟨by simp_all, Below.refl _ _⟩
theorem fields_walk (s : ByteArray) (w : World) (hs : s.size ≤ 2000000) : Go.Calls Tryd.prog (ren_n229.f 229) #[.string s, .func (.func 65) #[] #[]] w fun e w' => ∃ A, e = .returned (.slice (some ⟨A, 0, none⟩) (Lib.goFieldsP spP s).length (Lib.goFieldsP spP s).length) ∧ w.heap.size ≤ A ∧
    w'.ownsRow w.heap.size (ren_n229.t 9) 1 (.slice (some ⟨A, 0, none⟩) (Lib.goFieldsP spP s).length (Lib.goFieldsP spP s).length) (Lib.goFieldsP spP s).length ((Lib.goFieldsP spP s).map Value.string) ∧ Below w.heap.size w w' := Any.strings_FieldsFunc_grows lays_n229 65 #[] (enters_of Tryd.func65 (by kernel_rfl) rfl) spP s w (by omega) (pred_walk w) (by kernel_rfl) (by kernel_rfl)
end
theorem tab_ok : okTab Tryd.prog R (Code.gs ++ Code.tab) = true := by kernel_rfl
theorem tab_plain : (Code.tab.all fun p => p.2.given.isNone) = true := by kernel_rfl
theorem known : ∀ p ∈ Code.gs, ∀ o, p.2.given = some o → Known Tryd.prog R (Kn.and (Kn.and (Kn.err 3) (Kn.err 4)) (Kn.tab Tryd.prog)) (R p.1) o := by
  intro p hp o ho
  simp only [Code.gs, List.mem_cons, List.mem_nil_iff, or_false] at hp
  rcases hp with rfl | rfl | rfl
  · cases ho; exact Known.format lays_n173 (by kernel_rfl) (fun w h => h.2)
  · cases ho; exact Known.number (fun s w hs a b => by show Go.Calls Tryd.prog 66 _ _ _; exact number_walk s w hs a b) (fun w h => h.1.1) (fun w h => h.1.2)
  · cases ho; exact Known.fields (T := ren_n229.t 9) (fun s w hs => by show Go.Calls Tryd.prog 64 #[_, .func (.func 65) _ _] _ _; exact fields_walk s w hs)
theorem table : Table Tryd.prog R (Kn.and (Kn.and (Kn.err 3) (Kn.err 4)) (Kn.tab Tryd.prog)) G := table_of tab_ok tab_plain known
end Go.DM
