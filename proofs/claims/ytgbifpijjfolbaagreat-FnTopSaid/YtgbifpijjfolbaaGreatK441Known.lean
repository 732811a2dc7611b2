/- Functions of Go's library whose answers are given: that they do so, whatever the program. -/
import Derived.Test.YtgbifpijjfolbaaGreatK441Given
import Derived.Shelf.Small.Strs
import Derived.Shelf.Strings.Repeat
import Derived.Shelf.Strings.OnBuilder
import Derived.Shelf.Strconv.Itoa4
import Derived.Shelf.Strings.SplitShaped
import Derived.Shelf.Strings.Prefix
import Derived.Shelf.Strings.SlTrimAscii
import Derived.Shelf.Strings.Replace
import Derived.Test.YtgbifpijjfolbaaGreatK441SplitK
set_option linter.all false
namespace Go.DM
variable [Tok]
variable {P : Program}
theorem none_of_d {ρ : Nat → Nat} {w : World} {xs : List Arg} {vs : List Value} {rs : List (Option Reg)} (h : ArgsRel ρ w xs vs rs) (hd : ∀ x ∈ xs, ∃ d, x = .d d) : some? rs = [] := by
  apply List.eq_nil_iff_forall_not_mem.2
  intro m hm
  obtain ⟨i, hi⟩ := some?_mem.1 hm
  have hir : i < rs.length := (List.getElem?_eq_some_iff.1 hi).1
  have h1 : i < xs.length := by rw [h.len']; exact hir
  have h2 : i < vs.length := by rw [← h.len]; exact h1
  have he := h.each i xs[i] vs[i] (some m) (by simp) (by simp) hi
  obtain ⟨d, hx⟩ := hd xs[i] (List.getElem_mem h1)
  rw [hx] at he
  exact he
theorem res_plain {ρ : Nat → Nat} {w : World} {xs : List Arg} {vs : List Value} {rs : List (Option Reg)} (h : ArgsRel ρ w xs vs rs) (hd : ∀ x ∈ xs, ∃ d, x = .d d) (x : S) : ResRel w w rs ⟨[.s x], []⟩ (enc x) := by
  have hn := none_of_d h hd
  refine ⟨by rw [hn]; exact Left.refl _ _, ⟨[enc x], [none], rfl, rfl, rfl, fun i x' u b h1 h2 h3 => ?_, fun i j b h1 h2 => ?_⟩, by rw [hn]; exact All2.nil⟩
  · match i with
    | 0 => cases h1; cases h2; cases h3; rfl
    | k + 1 => cases h1
  · match i with
    | 0 => cases h1
    | k + 1 => cases h1
theorem Known.indexByte {ρ : Nat → Nat} {κ : Kn} {σ : Go.Shelf.Ren} (L : Go.Proofs.Lays.n137 P σ) {f : Nat} (hf : σ.f 137 = f) : Known P ρ κ f indexByteO := by
  intro xs r h w vs rs ha _ _ _
  subst hf
  unfold indexByteO at h
  split at h
  · rename_i s c
    cases h
    have hl := ha.len
    have hl' := ha.len'
    match vs, hl, rs, hl' with
    | [v0, v1], _, [r0, r1], _ =>
      have hd : ∀ x ∈ ([.d (.s (.str s)), .d (.s (.int .u8 c))] : List Arg), ∃ d, x = .d d := by
        intro x hx
        simp only [List.mem_cons, List.mem_nil_iff, or_false] at hx
        rcases hx with rfl | rfl <;> exact ⟨_, rfl⟩
      have e0 := ha.each 0 _ v0 r0 rfl rfl rfl
      have e1 := ha.each 1 _ v1 r1 rfl rfl rfl
      cases r0 with
      | some m => exact e0.elim
      | none =>
        cases r1 with
        | some m => exact e1.elim
        | none =>
          have e0 : DRel _ _ _ (.s (.str s)) v0 := e0
          have e1 : DRel _ _ _ (.s (.int .u8 c)) v1 := e1
          cases e0
          cases e1
          refine Go.Calls.mono (Go.Proofs.Any.strings_IndexByte L ⟨s.toArray⟩ c w) ?_
          rintro e w' ⟨rfl, rfl⟩
          exact ⟨_, rfl, res_plain ha hd _⟩
  · cases h
theorem left_below {w w' : World} (h : Go.RowKit.Below w.heap.size w w') : Left [] w w' := by
  refine ⟨h.os, h.tape, h.output, h.size, fun b c T fz hb => ?_, fun b hb _ => h.block b hb, fun m hm => by cases hm⟩
  have hlt : b < w.heap.size := (Array.getElem?_eq_some_iff.1 hb).1
  exact ⟨c, by rw [h.block b hlt]; exact hb, rfl⟩
theorem res_below {ρ : Nat → Nat} {w w' : World} {xs : List Arg} {vs : List Value} {rs : List (Option Reg)} (h : ArgsRel ρ w xs vs rs) (hd : ∀ x ∈ xs, ∃ d, x = .d d) (hb : Go.RowKit.Below w.heap.size w w') (x : S) : ResRel w w' rs ⟨[.s x], []⟩ (enc x) := by
  have hn := none_of_d h hd
  refine ⟨by rw [hn]; exact left_below hb, ⟨[enc x], [none], rfl, rfl, rfl, fun i x' u b h1 h2 h3 => ?_, fun i j b h1 h2 => ?_⟩, by rw [hn]; exact All2.nil⟩
  · match i with
    | 0 => cases h1; cases h2; cases h3; rfl
    | k + 1 => cases h1
  · match i with
    | 0 => cases h1
    | k + 1 => cases h1
theorem Known.repeat_ {ρ : Nat → Nat} {κ : Kn} {σ : Go.Shelf.Ren} (L : Go.Proofs.Lays.n105 P σ) (X : Go.Proofs.Builder.Extra P σ) {f : Nat} (hf : σ.f 105 = f) : Known P ρ κ f repeatO := by
  intro xs r h w vs rs ha _ _ _
  subst hf
  unfold repeatO at h
  split at h
  · rename_i s n
    split at h
    · rename_i hb
      cases h
      have hl := ha.len
      have hl' := ha.len'
      match vs, hl, rs, hl' with
      | [v0, v1], _, [r0, r1], _ =>
        have hd : ∀ x ∈ ([.d (.s (.str s)), .d (.s (.int .i64 n))] : List Arg), ∃ d, x = .d d := by
          intro x hx
          simp only [List.mem_cons, List.mem_nil_iff, or_false] at hx
          rcases hx with rfl | rfl <;> exact ⟨_, rfl⟩
        have e0 := ha.each 0 _ v0 r0 rfl rfl rfl
        have e1 := ha.each 1 _ v1 r1 rfl rfl rfl
        cases r0 with
        | some m => exact e0.elim
        | none =>
          cases r1 with
          | some m => exact e1.elim
          | none =>
            have e0 : DRel _ _ _ (.s (.str s)) v0 := e0
            have e1 : DRel _ _ _ (.s (.int .i64 n)) v1 := e1
            cases e0
            cases e1
            obtain ⟨N, rfl⟩ : ∃ N : Nat, n = N := ⟨n.toNat, by omega⟩
            have hm : s.length * N ≤ 1000000 * 1000000 := Nat.mul_le_mul hb.2.2 (by omega)
            refine Go.Calls.mono (Go.Proofs.Any.strings_Repeat L X ⟨s.toArray⟩ N w (by omega) ?_) ?_
            · show s.toArray.size * N ≤ _
              rw [List.size_toArray]; omega
            · rintro e w' ⟨rfl, hbl⟩
              exact ⟨_, rfl, res_below ha hd hbl _⟩
    · cases h
  · cases h
theorem two_args {ρ : Nat → Nat} {w : World} {a b : D} {vs : List Value} {rs : List (Option Reg)} (h : ArgsRel ρ w [.d a, .d b] vs rs) :
    ∃ v0 v1, vs = [v0, v1] ∧ DRel ρ (inner ρ w (some? rs)).I w a v0 ∧ DRel ρ (inner ρ w (some? rs)).I w b v1 := by
  have hl := h.len
  have hl' := h.len'
  match vs, hl, rs, hl' with
  | [v0, v1], _, [r0, r1], _ =>
    have e0 := h.each 0 _ v0 r0 rfl rfl rfl
    have e1 := h.each 1 _ v1 r1 rfl rfl rfl
    cases r0 with
    | some m => exact e0.elim
    | none =>
      cases r1 with
      | some m => exact e1.elim
      | none => exact ⟨v0, v1, rfl, e0, e1⟩
theorem two_d {a b : D} : ∀ x ∈ ([.d a, .d b] : List Arg), ∃ d, x = .d d := by
  intro x hx
  simp only [List.mem_cons, List.mem_nil_iff, or_false] at hx
  rcases hx with rfl | rfl <;> exact ⟨_, rfl⟩
theorem strsOf_len : ∀ {cs : List S} {xs : List (List UInt8)}, strsOf cs = some xs → cs = xs.map S.str
  | [], xs, h => by cases h; rfl
  | x :: cs, xs, h => by
    unfold strsOf at h
    split at h
    · rename_i heq; cases heq
    · rename_i heq
      cases heq
      rw [Option.map_eq_some_iff] at h
      obtain ⟨ys, h1, rfl⟩ := h
      rw [List.map_cons, strsOf_len h1]
    · cases h
theorem Known.join {ρ : Nat → Nat} {κ : Kn} {σ : Go.Shelf.Ren} (L : Go.Proofs.Lays.n156 P σ) (X : Go.Proofs.Builder.Extra P σ) {f : Nat} (hf : σ.f 156 = f) : Known P ρ κ f joinO := by
  intro xs r h w vs rs ha _ _ _
  subst hf
  unfold joinO at h
  split at h
  · rename_i n cs sep
    rw [obs] at h
    obtain ⟨ys, h1, h⟩ := h
    split at h
    · rename_i hb
      cases h
      obtain ⟨hn, hb1, hb2⟩ := hb
      obtain ⟨v0, v1, rfl, e0, e1⟩ := two_args ha
      cases e1
      have hcs := strsOf_len h1
      subst hcs
      cases e0 with
      | sl0 _ _ a cap h0 =>
        have : ys = [] := by simpa using h0
        subst this
        refine Go.Calls.mono (Go.Proofs.Any.strings_Join_none L X a cap ⟨sep.toArray⟩ w) ?_
        rintro e w' ⟨rfl, rfl⟩
        exact ⟨_, rfl, res_plain ha two_d (.str [])⟩
      | sl _ _ _ b off cap hI hc hl hr =>
        have hcells : ∀ (j : Nat) (x : ByteArray), (ys.map fun y => (⟨y.toArray⟩ : ByteArray))[j]? = some x → w.cell? ⟨b, off + j, none⟩ = some (.string x) := by
          intro j x hx
          rw [List.getElem?_map, Option.map_eq_some_iff] at hx
          obtain ⟨y, hy, rfl⟩ := hx
          exact hr j _ (by simp [encs, hy, DM.enc])
        have hm : (ys.map fun y => (⟨y.toArray⟩ : ByteArray)).map (·.data.toList) = ys := by
          rw [List.map_map]
          exact (List.map_congr_left (fun y _ => rfl)).trans (List.map_id ys)
        have hj := Go.Proofs.Any.strings_Join L X b off cap (ys.map fun y => (⟨y.toArray⟩ : ByteArray)) ⟨sep.toArray⟩ w hcells hI.1 (by rw [List.length_map]; omega) (by rw [List.length_map]; omega) (by rw [hm]; show (Lib.join ys sep).length ≤ _; omega)
        rw [hm, List.length_map, hn] at hj
        refine Go.Calls.mono hj ?_
        rintro e w' ⟨rfl, hbl⟩
        exact ⟨_, rfl, res_below ha two_d hbl (.str (Lib.join ys sep))⟩
    · cases h
  · cases h
theorem var?_same {w w' : World} {name : String} (h : ∀ b, b < (P.globalNamed name).getD 0 + 1 → Same w w' b) : w'.var? P name = w.var? P name := by
  unfold World.var?
  cases hg : P.globalNamed name with
  | none => rfl
  | some g =>
    rw [hg] at h
    have := h g (by simp)
    simp only [Option.bind_some, this]
theorem tab_size {w : World} {name : String} {kd : IntKind} {zs : List Int} (h : Lib.TabIs P w name kd zs) : (P.globalNamed name).getD 0 + 1 ≤ w.heap.size := by
  unfold Lib.TabIs World.var? at h
  cases hg : P.globalNamed name with
  | none => rw [hg] at h; cases h
  | some g =>
    rw [hg] at h
    simp only [Option.bind_some] at h
    split at h
    · rename_i hh
      exact (Array.getElem?_eq_some_iff.1 hh).1
    · cases h
def Kn.tab (P : Program) : Kn := ⟨fun w => Lib.TabIs P w "internal/strconv.uint64pow10" .u64 Lib.pow10Tab, (P.globalNamed "internal/strconv.uint64pow10").getD 0 + 1, fun w w' h _ hs => (var?_same hs).trans h⟩
theorem left_grow (w : World) (k : Nat) (os : Array Obj) : Go.RowKit.Below w.heap.size w (Sort.grow (w.drewN k) os) := by
  refine ⟨rfl, rfl, rfl, ?_, fun i hi => ?_⟩
  · show w.heap.size ≤ (w.heap ++ os).size
    rw [Array.size_append]; omega
  · show (w.heap ++ os)[i]? = _
    rw [Array.getElem?_append_left hi]
theorem Known.format {ρ : Nat → Nat} {κ : Kn} {σ : Go.Shelf.Ren} (L : Go.Proofs.LaysM.n173 P σ) {f : Nat} (hf : σ.f 173 = f) (hK : ∀ w, κ.K w → Lib.TabIs P w "internal/strconv.uint64pow10" .u64 Lib.pow10Tab) : Known P ρ κ f formatO := by
  intro xs r h w vs rs ha hk _ _
  subst hf
  unfold formatO at h
  split at h
  · rename_i n
    have key : -9223372036854775808 ≤ n ∧ n ≤ 9223372036854775807 → r = ⟨[.s (.str (Lib.itoa n))], []⟩ → Go.Calls P (σ.f 173) vs.toArray w fun e w' => ∃ v, e = .returned v ∧ ResRel w w' rs r v := by
      rintro ⟨h1, h2⟩ rfl
      obtain ⟨v0, v1, rfl, e0, e1⟩ := two_args ha
      cases e0
      cases e1
      refine Go.Calls.mono (Go.Proofs.Any.strconv_FormatInt_10 L n h1 h2 w (hK w hk)) ?_
      rintro e w' ⟨rfl, k, os, rfl⟩
      exact ⟨_, rfl, res_below ha two_d (left_grow w k os) (.str (Lib.itoa n))⟩
    split at h
    · rename_i hb
      cases h
      exact key (by omega) (by unfold Lib.itoa; rw [if_neg (by omega)])
    · split at h
      · cases h
        exact key (by omega) rfl
      · cases h
  · cases h
def Kn.max (g : Nat) : Kn := ⟨fun w => ∃ m, w.cell? ⟨g, 0, Option.none⟩ = some (.int .i64 m), g + 1, fun w w' ⟨m, h⟩ _ hs => ⟨m, by rw [← h]; exact World.cell?_of_block (a := ⟨g, 0, Option.none⟩) (hs g (by omega))⟩⟩
theorem max_size {w : World} {g : Nat} (h : (Kn.max g).K w) : (Kn.max g).n0 ≤ w.heap.size := by
  obtain ⟨m, h⟩ := h
  exact World.block_lt_of_cell? _ _ h
def Kn.and (a b : Kn) : Kn := ⟨fun w => a.K w ∧ b.K w, Max.max a.n0 b.n0, fun w w' h hz hs => ⟨a.keep w w' h.1 hz fun c hc => hs c (by omega), b.keep w w' h.2 hz fun c hc => hs c (by omega)⟩⟩
theorem and_size {a b : Kn} {w : World} (h1 : a.n0 ≤ w.heap.size) (h2 : b.n0 ≤ w.heap.size) : (Kn.and a b).n0 ≤ w.heap.size := Nat.max_le.2 ⟨h1, h2⟩
theorem left_alloc (w : World) (o : Obj) : Left [] w (w.alloc o) := by
  refine ⟨rfl, rfl, rfl, ?_, fun b c T fz hb => ?_, fun b hb _ => ?_, fun m hm => by cases hm⟩
  · show w.heap.size ≤ (w.heap.push o).size
    rw [Array.size_push]; omega
  · have hlt : b < w.heap.size := (Array.getElem?_eq_some_iff.1 hb).1
    exact ⟨c, by show (w.heap.push o)[b]? = _; rw [Array.getElem?_push_lt hlt, ← hb, Array.getElem?_eq_getElem hlt], rfl⟩
  · show (w.heap.push o)[b]? = _
    rw [Array.getElem?_push_lt hb, Array.getElem?_eq_getElem hb]
theorem res_own {ρ : Nat → Nat} {w : World} {xs : List Arg} {vs : List Value} {rs : List (Option Reg)} (h : ArgsRel ρ w xs vs rs) (hd : ∀ x ∈ xs, ∃ d, x = .d d) (cs : List S) (T : TypeId) :
    ResRel w (w.alloc (.cells (encs cs).toArray T)) rs ⟨[.own cs.length 1 cs], []⟩ (.slice (some ⟨w.heap.size, 0, none⟩) cs.length cs.length) := by
  have hn := none_of_d h hd
  have hnew : (w.alloc (.cells (encs cs).toArray T)).heap[w.heap.size]? = some (.cells (encs cs).toArray T) := by
    show (w.heap.push _)[w.heap.size]? = _
    exact Array.getElem?_push_size
  have hsz : (encs cs).toArray.size = cs.length := by simp [encs]
  refine ⟨by rw [hn]; exact left_alloc _ _, ⟨[_], [some w.heap.size], rfl, rfl, rfl, fun i x' u b h1 h2 h3 => ?_, fun i j b h1 h2 => ?_⟩, by rw [hn]; exact All2.nil⟩
  · match i with
    | 0 =>
      cases h1; cases h2; cases h3
      refine ⟨0, 0, _, rfl, Nat.le_refl _, ?_, Nat.le_refl _, fun _ => rfl, ⟨_, _, _, hnew, by rw [hsz]; omega⟩, ⟨_, _, _, ⟨hnew, fun k _ => by omega⟩, by rw [hsz]; simp, ?_⟩⟩
      · show w.heap.size < (w.heap.push _).size
        rw [Array.size_push]; omega
      · intro j v hv
        show World.cell? _ ⟨w.heap.size, 0 + j, none⟩ = _
        simp only [World.cell?, hnew]
        simp only [Nat.zero_add]
        simpa using hv
    | k + 1 => cases h1
  · match i, j with
    | 0, 0 => rfl
    | k + 1, _ => cases h1
    | 0, k + 1 => cases h2
theorem Known.split {ρ : Nat → Nat} {κ : Kn} {σ : Go.Shelf.Ren} (L : Go.Proofs.LaysM.n146 P σ) {f : Nat} (hf : σ.f 146 = f) (hK : ∀ w, κ.K w → (Kn.max (σ.g 1)).K w) : Known P ρ κ f splitO := by
  intro xs r h w vs rs ha hk _ _
  subst hf
  unfold splitO at h
  split at h
  · rename_i s c
    split at h
    · rename_i hb
      cases h
      obtain ⟨v0, v1, rfl, e0, e1⟩ := two_args ha
      cases e0
      cases e1
      obtain ⟨m, hm⟩ := hK w hk
      refine Go.Calls.mono (Go.Proofs.Any.strings_Split { L with } L.i9 ⟨s.toArray⟩ ⟨#[c]⟩ m w (by show s.toArray.size < _; rw [List.size_toArray]; omega) hm (by show 1 ≤ (1 : Nat); omega)) ?_
      rintro e w' ⟨rfl, rfl⟩
      refine ⟨_, rfl, ?_⟩
      rw [countB_one, splitB_one]
      have := res_own ha two_d ((pieces c s).map S.str) (σ.t 9)
      rw [List.length_map] at this
      have e2 : encs ((pieces c s).map S.str) = (pieces c s).map fun x => Value.string ⟨x.toArray⟩ := by
        rw [encs, List.map_map]; rfl
      rw [e2] at this
      exact this
    · cases h
  · cases h
theorem Known.trimSuffix {ρ : Nat → Nat} {κ : Kn} {σ : Go.Shelf.Ren} (L : Go.Proofs.Lays.n102 P σ) {f : Nat} (hf : σ.f 102 = f) : Known P ρ κ f trimSuffixO := by
  intro xs r h w vs rs ha _ _ _
  subst hf
  unfold trimSuffixO at h
  split at h
  · rename_i s c
    split at h
    · rename_i hb
      cases h
      obtain ⟨v0, v1, rfl, e0, e1⟩ := two_args ha
      cases e0
      cases e1
      refine Go.Calls.mono (Go.Proofs.Any.strings_TrimSuffix L ⟨s.toArray⟩ ⟨c.toArray⟩ w (by show s.toArray.size ≤ _; rw [List.size_toArray]; omega)) ?_
      rintro e w' ⟨rfl, rfl⟩
      exact ⟨_, rfl, res_plain ha two_d (.str (Lib.trimSuffix s c))⟩
    · cases h
  · cases h
theorem Known.trim {ρ : Nat → Nat} {κ : Kn} {σ : Go.Shelf.Ren} (L : Go.Proofs.Lays.n160 P σ) (h116 : (P.info? (σ.t 116)).map (fun i => (i.zero, i.size)) = some (some (.agg (Array.replicate 256 (.bool false))), 256)) {f : Nat} (hf : σ.f 160 = f) : Known P ρ κ f trimO := by
  intro xs r h w vs rs ha _ _ _
  subst hf
  unfold trimO at h
  split at h
  · rename_i s c
    split at h
    · rename_i hb
      cases h
      obtain ⟨v0, v1, rfl, e0, e1⟩ := two_args ha
      cases e0
      cases e1
      refine Go.Calls.mono (Go.Proofs.Any.strings_Trim_laid L h116 ⟨s.toArray⟩ ⟨c.toArray⟩ w (by show s.toArray.size ≤ _; rw [List.size_toArray]; omega) (by show c.toArray.size < _; rw [List.size_toArray]; omega) (Go.Proofs.ascii_of_all hb.2.2)) ?_
      rintro e w' ⟨rfl, hbl⟩
      exact ⟨_, rfl, res_below ha two_d hbl (.str (Lib.trimS s c))⟩
    · cases h
  · cases h
theorem three_args {ρ : Nat → Nat} {w : World} {a b c : D} {vs : List Value} {rs : List (Option Reg)} (h : ArgsRel ρ w [.d a, .d b, .d c] vs rs) :
    ∃ v0 v1 v2, vs = [v0, v1, v2] ∧ DRel ρ (inner ρ w (some? rs)).I w a v0 ∧ DRel ρ (inner ρ w (some? rs)).I w b v1 ∧ DRel ρ (inner ρ w (some? rs)).I w c v2 := by
  have hl := h.len
  have hl' := h.len'
  match vs, hl, rs, hl' with
  | [v0, v1, v2], _, [r0, r1, r2], _ =>
    have e0 := h.each 0 _ v0 r0 rfl rfl rfl
    have e1 := h.each 1 _ v1 r1 rfl rfl rfl
    have e2 := h.each 2 _ v2 r2 rfl rfl rfl
    cases r0 with
    | some m => exact e0.elim
    | none =>
      cases r1 with
      | some m => exact e1.elim
      | none =>
        cases r2 with
        | some m => exact e2.elim
        | none => exact ⟨v0, v1, v2, rfl, e0, e1, e2⟩
theorem three_d {a b c : D} : ∀ x ∈ ([.d a, .d b, .d c] : List Arg), ∃ d, x = .d d := by
  intro x hx
  simp only [List.mem_cons, List.mem_nil_iff, or_false] at hx
  rcases hx with rfl | rfl | rfl <;> exact ⟨_, rfl⟩
theorem Known.replace {ρ : Nat → Nat} {κ : Kn} {σ : Go.Shelf.Ren} (L : Go.Proofs.LaysM.n155 P σ) (X : Go.Proofs.Builder.Extra P σ) {f : Nat} (hf : σ.f 155 = f) (hK : ∀ w, κ.K w → (Kn.max (σ.g 1)).K w) : Known P ρ κ f replaceO := by
  intro xs r h w vs rs ha hk _ _
  subst hf
  unfold replaceO at h
  split at h
  · rename_i s c
    split at h
    · rename_i hb
      cases h
      obtain ⟨v0, v1, v2, rfl, e0, e1, e2⟩ := three_args ha
      cases e0
      cases e1
      cases e2
      obtain ⟨m, hm⟩ := hK w hk
      refine Go.Calls.mono (Go.Proofs.Any.strings_ReplaceAll { L with } X ⟨s.toArray⟩ ⟨#[c]⟩ ⟨#[]⟩ m w (by show s.toArray.size < _; rw [List.size_toArray]; omega) hm (by show 1 ≤ (1 : Nat); omega) (by
        show s.toArray.size + Lib.countB ⟨s.toArray⟩ ⟨#[c]⟩ * 0 ≤ _
        rw [List.size_toArray]; omega)) ?_
      rintro e w' ⟨rfl, hbl⟩
      exact ⟨_, rfl, res_below ha three_d hbl (.str (Lib.replaceAll s [c] []))⟩
    · cases h
  · cases h
def errAt (g : Nat) (w : World) : Prop := ∃ ev, w.cell? ⟨g, 0, none⟩ = some ev ∧ (ev = .nilIface ∨ ∃ te pe, ev = .iface te pe)
def Kn.err (g : Nat) : Kn := ⟨errAt g, g + 1, fun w w' ⟨ev, h, he⟩ _ hs => ⟨ev, by rw [← h]; exact World.cell?_of_block (a := ⟨g, 0, Option.none⟩) (hs g (by omega)), he⟩⟩
theorem err_size {w : World} {g : Nat} (h : (Kn.err g).K w) : (Kn.err g).n0 ≤ w.heap.size := by
  obtain ⟨ev, h, _⟩ := h
  exact World.block_lt_of_cell? _ _ h
theorem Known.number {ρ : Nat → Nat} {κ : Kn} {f g1 g2 : Nat} (hw : ∀ (s : ByteArray) (w : World), s.size ≤ 2000000 → errAt g1 w → errAt g2 w → Go.Calls P f #[.string s] w fun e w' => e = .returned (.int .i64 (numL s.data.toList)) ∧ Go.RowKit.Below w.heap.size w w')
    (h1 : ∀ w, κ.K w → (Kn.err g1).K w) (h2 : ∀ w, κ.K w → (Kn.err g2).K w) : Known P ρ κ f numberO := by
  intro xs r h w vs rs ha hk _ _
  unfold numberO at h
  split at h
  · rename_i s
    split at h
    · rename_i hb
      cases h
      have hl := ha.len
      have hl' := ha.len'
      match vs, hl, rs, hl' with
      | [v0], _, [r0], _ =>
        have e0 := ha.each 0 _ v0 r0 rfl rfl rfl
        cases r0 with
        | some m => exact e0.elim
        | none =>
          have e0 : DRel _ _ _ (.s (.str s)) v0 := e0
          cases e0
          have hd : ∀ x ∈ ([.d (.s (.str s))] : List Arg), ∃ d, x = .d d := by
            intro x hx
            simp only [List.mem_cons, List.mem_nil_iff, or_false] at hx
            exact ⟨_, hx⟩
          refine Go.Calls.mono (hw ⟨s.toArray⟩ w (by show s.toArray.size ≤ _; rw [List.size_toArray]; omega) (h1 w hk) (h2 w hk)) ?_
          rintro e w' ⟨rfl, hbl⟩
          exact ⟨_, rfl, res_below ha hd hbl (.int .i64 (numL s))⟩
    · cases h
  · cases h
theorem res_row {ρ : Nat → Nat} {w w' : World} {xs : List Arg} {vs : List Value} {rs : List (Option Reg)} (h : ArgsRel ρ w xs vs rs) (hd : ∀ x ∈ xs, ∃ d, x = .d d) (hb : Go.RowKit.Below w.heap.size w w') (cs : List S) (T : TypeId) (A : Nat)
    (ho : w'.ownsRow w.heap.size T 1 (.slice (some ⟨A, 0, none⟩) cs.length cs.length) cs.length (encs cs)) : ResRel w w' rs ⟨[.own cs.length 1 cs], []⟩ (.slice (some ⟨A, 0, none⟩) cs.length cs.length) := by
  have hn := none_of_d h hd
  obtain ⟨hlen, ⟨h0, _⟩ | ⟨g, cap, cur, hv, hg, hc, hle, hm, hsz, htk⟩⟩ := ho
  · cases h0
  cases hv
  have hlt : A < w'.heap.size := (Array.getElem?_eq_some_iff.1 hc).1
  refine ⟨(res_below h hd hb (.bool true)).left, ⟨[_], [some A], rfl, rfl, rfl, fun i x' u b h1 h2 h3 => ?_, fun i j b h1 h2 => ?_⟩, by rw [hn]; exact All2.nil⟩
  · match i with
    | 0 =>
      cases h1; cases h2; cases h3
      refine ⟨0, 0, _, rfl, hg, hlt, Nat.le_refl _, fun _ => rfl, ⟨_, _, _, hc, by rw [hsz]; omega⟩, ⟨_, _, _, ⟨hc, fun k _ => by omega⟩, by rw [hsz]; omega, ?_⟩⟩
      intro j v hv
      show World.cell? _ ⟨A, 0 + j, none⟩ = _
      simp only [World.cell?, hc]
      rw [← htk] at hv
      have hj : j < cs.length * 1 := by
        rcases Nat.lt_or_ge j (cs.length * 1) with h' | h'
        · exact h'
        · rw [List.getElem?_eq_none (by rw [List.length_take]; omega)] at hv; cases hv
      rw [List.getElem?_take_of_lt hj] at hv
      simp only [Nat.zero_add]
      simpa using hv
    | k + 1 => cases h1
  · match i, j with
    | 0, 0 => rfl
    | k + 1, _ => cases h1
    | 0, k + 1 => cases h2
theorem Known.fields {ρ : Nat → Nat} {κ : Kn} {f k : Nat} {T : TypeId} (hw : ∀ (s : ByteArray) (w : World), s.size ≤ 2000000 → Go.Calls P f #[.string s, .func (.func (ρ k)) #[] #[]] w fun e w' => ∃ A, e = .returned (.slice (some ⟨A, 0, none⟩) (Lib.goFieldsP spP s).length (Lib.goFieldsP spP s).length) ∧ w.heap.size ≤ A ∧
      w'.ownsRow w.heap.size T 1 (.slice (some ⟨A, 0, none⟩) (Lib.goFieldsP spP s).length (Lib.goFieldsP spP s).length) (Lib.goFieldsP spP s).length ((Lib.goFieldsP spP s).map Value.string) ∧ Go.RowKit.Below w.heap.size w w') : Known P ρ κ f (fieldsO k) := by
  intro xs r h w vs rs ha hk _ _
  unfold fieldsO at h
  split at h
  · rename_i s f'
    split at h
    · rename_i hb
      cases h
      obtain ⟨rfl, hb⟩ := hb
      obtain ⟨v0, v1, rfl, e0, e1⟩ := two_args ha
      cases e0
      cases e1 with
      | clo _ _ _ ps qs hp hq _ _ =>
        obtain rfl : ps = [] := List.eq_nil_of_length_eq_zero hp.symm
        obtain rfl : qs = [] := List.eq_nil_of_length_eq_zero hq.symm
        refine Go.Calls.mono (hw ⟨s.toArray⟩ w (by show s.toArray.size ≤ _; rw [List.size_toArray]; omega)) ?_
        rintro e w' ⟨A, rfl, _, hown, hbl⟩
        refine ⟨_, rfl, ?_⟩
        have hl : ((fieldsL s).map S.str).length = (Lib.goFieldsP spP ⟨s.toArray⟩).length := by rw [List.length_map, fieldsL, List.length_map]
        have he : encs ((fieldsL s).map S.str) = (Lib.goFieldsP spP ⟨s.toArray⟩).map Value.string := by
          rw [encs, List.map_map, fieldsL, List.map_map]; rfl
        have hr := res_row ha two_d hbl ((fieldsL s).map S.str) T A (by rw [hl, he]; exact hown)
        rw [hl] at hr
        rw [show (fieldsL s).length = (Lib.goFieldsP spP ⟨s.toArray⟩).length by rw [fieldsL, List.length_map]]
        exact hr
    · cases h
  · cases h
end Go.DM
