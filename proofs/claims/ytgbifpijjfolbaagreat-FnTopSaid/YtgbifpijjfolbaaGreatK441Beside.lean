/- Rows of rounds. -/
import Derived.Test.YtgbifpijjfolbaaGreatK441Text
import Derived.Test.YtgbifpijjfolbaaGreatK441Y
import Derived.Deep.Slices
import Derived.Test.YtgbifpijjfolbaaGreatK441SplitK
import Derived.Test.YtgbifpijjfolbaaGreatK441Loop
set_option linter.all false
namespace Go.DM
variable [Tok]
open Go.IntWalk
abbrev Rnd := Int × Bool
def encO : List Rnd → List S
  | [] => []
  | r :: l => .int .i8 r.1 :: .bool r.2 :: encO l
theorem encO_length : ∀ l, (encO l).length = l.length * 2
  | [] => rfl
  | n :: r => by simp only [encO, List.length_cons, encO_length r, Nat.succ_mul]
theorem encO_append : ∀ a b, encO (a ++ b) = encO a ++ encO b
  | [], b => rfl
  | n :: r, b => by simp only [List.cons_append, encO, encO_append r b]
abbrev gO (l : List Rnd) (k : Nat) : Rnd := l.getD k (0, false)
theorem gO_get {l : List Rnd} {k : Nat} (h : k < l.length) : l[k]? = some (gO l k) := by
  simp [gO, List.getD_eq_getElem?_getD, h]
theorem gO_mem {l : List Rnd} {k : Nat} (h : k < l.length) : gO l k ∈ l := List.mem_of_getElem? (gO_get h)
theorem encO_at : ∀ {l : List Rnd} {k : Nat}, k < l.length → (encO l)[k * 2]? = some (.int .i8 (gO l k).1) ∧ (encO l)[k * 2 + 1]? = some (.bool (gO l k).2)
  | [], k, h => by simp at h
  | r :: l, 0, h => ⟨rfl, rfl⟩
  | r :: l, k + 1, h => by
    have := encO_at (l := l) (k := k) (by simpa using h)
    rw [show (k + 1) * 2 = k * 2 + 2 by omega, show k * 2 + 2 + 1 = (k * 2 + 1) + 2 by omega]
    simpa [encO, gO] using this
theorem loadC_two {cs : List S} {k : Nat} {a b : S} (h1 : cs[k]? = some a) (h2 : cs[k + 1]? = some b) : loadC 2 true cs k = some (.a (.d (.agg [a, b]))) := by
  have hb := (List.getElem?_eq_some_iff.1 h2).1
  simp only [loadC, ofCells, av, if_true]
  rw [if_pos (by omega)]
  congr 3
  have : (cs.drop k).take 2 = [a, b] := by
    apply List.ext_getElem?
    intro i
    rw [List.getElem?_take, List.getElem?_drop]
    match i with
    | 0 => simpa using h1
    | 1 => simpa using h2
    | i + 2 => simp; omega
  rw [this]
theorem ldOd {l : List Rnd} {k : Nat} (h : k < l.length) : loadC 2 true (encO l) (k * 2) = some (.a (.d (.agg [.int .i8 (gO l k).1, .bool (gO l k).2]))) := loadC_two (encO_at h).1 (encO_at h).2
theorem apR_dl {σ : St} {d : Option Nat} {p : Nat} {a b : Opd} {l : List Rnd} {x : Int} {y : Bool} (ha : ev σ.env a = .a (.sl p 0 l.length 2)) (ho : σ.objs p = some (.flat false (encO l))) (hb : elems σ.objs 2 (ev σ.env b) = some (1, [.int .i8 x, .bool y])) (h2 : l.length ≤ 100000000) {Γ : Nat → Option Fn} {call : Calls} :
    delta Γ call d σ (.app 2 a b) = some ⟨.a (.sl p 0 (l ++ [(x, y)]).length 2), [p], [(p, .flat false (encO (l ++ [(x, y)])))]⟩ := by
  have hl := encO_length l
  simp only [delta, append, ha, hb, ho]
  rw [if_pos ⟨trivial, by omega, by simp only [big]; omega⟩, encO_append, List.length_append, List.drop_zero, List.take_of_length_le (by omega)]
  rfl
section
variable {dsts : Nat → Option Nat} {ops : List Oper} {Q : St → Prop} {σ : St} {d : Option Nat} {g : Option (Nat × Bool)} {l1 l2 l3 l4 : List Nat} {Γ : Nat → Option Fn}
theorem WR.apR {p : Nat} {a b : Opd} {l : List Rnd} {x : Int} {y : Bool} (hw : wanted dsts σ.env g = some true) (ha : ev σ.env a = .a (.sl p 0 l.length 2)) (ho : σ.objs p = some (.flat false (encO l))) (hb : elems σ.objs 2 (ev σ.env b) = some (1, [.int .i8 x, .bool y])) (h2 : l.length ≤ 100000000)
    (k : WR Γ dsts ops Q (set d (.a (.sl p 0 (l ++ [(x, y)]).length 2)) (put p (.flat false (encO (l ++ [(x, y)]))) (kill [p] σ)))) : WR Γ dsts (⟨d, .app 2 a b, g, l1, l2, l3, l4⟩ :: ops) Q σ :=
  WR.cons ⟨0, step_dl hw (apR_dl ha ho hb h2) (by rw [noPar_one]; intro cs e; rw [ho] at e; cases e)⟩ k
theorem WR.bsR0 {e : Nat} (hw : wanted dsts σ.env g = some true) (hp : noPar σ [e] = true) (k : WR Γ dsts ops Q (set (some e) (.a (.sl e 0 0 2)) (put e (.flat false (encO [])) (kill [e] σ)))) : WR Γ dsts (⟨some e, .bsl 2 0 [.int .i8 0, .bool false] [], g, l1, l2, l3, l4⟩ :: ops) Q σ :=
  WR.mk (d := e) (ob := .flat false (encO [])) hw rfl rfl (by simp [makes, all?, cellsOf, fill, replicate, List.replicate, encO]) hp k
theorem WR.bsR1 {e : Nat} {a0 : Opd} {x : Int} {y : Bool} (hw : wanted dsts σ.env g = some true) (h0 : ev σ.env a0 = .a (.d (.agg [.int .i8 x, .bool y]))) (hp : noPar σ [e] = true) (k : WR Γ dsts ops Q (set (some e) (.a (.sl e 0 1 2)) (put e (.flat false (encO [(x, y)])) (kill [e] σ)))) : WR Γ dsts (⟨some e, .bsl 2 1 [.int .i8 0, .bool false] [(0, a0)], g, l1, l2, l3, l4⟩ :: ops) Q σ :=
  WR.mk (d := e) (ob := .flat false (encO [(x, y)])) hw rfl rfl (by simp [makes, all?, h0, cellsOf, fill, replicate, List.replicate, encO]) hp k
end
end Go.DM

/- Arguments as they come: slices of plain rows. -/
namespace Go.DM
variable [Tok]
open Go.ChangeShapes Go.WideShapes Go.ChangeAt Go.RowKit
section
variable {H : Type} {enc' : TypeId × Value → H} {P : Program} {w : World} {base : Nat} {sp : Nat → Bool} {held : Bool}
theorem mapM_get {α β : Type} {f : α → Option β} : ∀ {l : List α} {r : List β}, l.mapM f = some r → l.length = r.length ∧ ∀ (i : Nat) (a : α), l[i]? = some a → ∃ b, r[i]? = some b ∧ f a = some b
  | [], r, h => by
    simp at h; subst h
    exact ⟨rfl, fun i a ha => by simp at ha⟩
  | x :: l, r, h => by
    simp only [List.mapM_cons, Option.bind_eq_bind, obs, Option.pure_def, Option.some.injEq] at h
    obtain ⟨b, hb, r', hr', rfl⟩ := h
    obtain ⟨h1, h2⟩ := mapM_get hr'
    refine ⟨by simp [h1], fun i a ha => ?_⟩
    cases i with
    | zero => simp at ha; subst ha; exact ⟨b, rfl, hb⟩
    | succ i => exact h2 i a (by simpa using ha)
theorem cells?_get {b : Nat} {a : Addr} {n : Nat} {cs : List Value} (h : w.cells? b a n = some cs) : cs.length = n ∧ ∀ i v, cs[i]? = some v → w.cell? (a.add i) = some v := by
  unfold World.cells? at h
  split at h
  · obtain ⟨h1, h2⟩ := mapM_get h
    rw [List.length_range] at h1
    refine ⟨h1.symm, fun i v hv => ?_⟩
    have hi : i < n := by rw [h1]; exact (List.getElem?_eq_some_iff.1 hv).1
    obtain ⟨u, e1, e2⟩ := h2 i i (by simp [hi])
    rw [hv] at e1; cases e1
    exact e2
  · cases h
theorem flatten_rows {n : Nat} : ∀ {rows : List (List S)}, (∀ r ∈ rows, r.length = n) → rows.flatten.length = rows.length * n ∧ ∀ (i k : Nat) (r : List S), rows[i]? = some r → k < n → rows.flatten[i * n + k]? = r[k]?
  | [], _ => ⟨by simp, fun i k r h => by simp at h⟩
  | r :: rows, h => by
    obtain ⟨h1, h2⟩ := flatten_rows (rows := rows) (n := n) (fun r hr => h r (List.mem_cons_of_mem _ hr))
    have hr := h r (List.mem_cons_self ..)
    refine ⟨by simp only [List.flatten_cons, List.length_append, List.length_cons, h1, hr, Nat.succ_mul]; omega, fun i k r' hi hk => ?_⟩
    cases i with
    | zero =>
      simp at hi; subst hi
      rw [List.flatten_cons, Nat.zero_mul, Nat.zero_add, List.getElem?_append_left (by omega)]
    | succ i =>
      rw [List.flatten_cons, List.getElem?_append_right (by rw [hr, Nat.succ_mul]; omega), hr, show (i + 1) * n + k - n = i * n + k by rw [Nat.succ_mul]; omega]
      exact h2 i k r' (by simpa using hi) hk
theorem open_rows {ρ : Nat → Nat} {t e : TypeId} {ks : List SK} {v : Value} {d : DataW H} {ps : List MemPlace} {r : Reach} {b0 : Nat} (ht : P.underlying t = some (.slice e)) (hk : ksOf P 20 e = some ks) (hc : P.cellsOf e = ks.length) (h0 : ks.length ≠ 0)
    (hv : Value.okWide P w r b0 t v) (h : DataW.Trod enc' P w base sp held t v d ps) :
    ∃ rows : List (List S), (∀ x ∈ rows, All2 wfS ks x) ∧ rows.length ≤ maxLen ∧ DRel ρ (fun b => b < w.heap.size) w (.sl rows.length ks.length rows.flatten) v := by
  obtain ⟨fuel, hf⟩ := h
  have hv1 : ∀ u : Value, v.cells.toList = [u] → u.cells = #[u] → v = u := by
    intro u hu hu1
    cases v <;> first
      | (simpa [Value.cells] using hu)
      | (exfalso; unfold Value.okWide at hv; simp [ht, Cell.okWide, Cell.ok] at hv)
  rcases Go.Deep.open_slice ht hf with ⟨h1, _⟩ | ⟨a, len, cap, m, n, D, Pl, h1, hb, hlc, hcm, hm, heq, hel⟩
  · have := hv1 _ h1 rfl
    subst this
    exact ⟨[], fun x hx => (by cases hx), Nat.zero_le _, DRel.sl0 _ _ _ _ rfl⟩
  · have := hv1 _ h1 rfl
    subst this
    have hml : len ≤ m := by rw [hm]; split <;> omega
    -- the rows
    have row : ∀ i, i < len → ∃ ss, All2 wfS ks ss ∧ ∀ k x, ss[k]? = some x → w.cell? ((a.add (i * ks.length)).add k) = some (DM.enc x) := by
      intro i hi
      obtain ⟨cs', e1, e2⟩ := hel i (by omega)
      obtain ⟨ss, e3, e4⟩ := ksOf_open 20 e ks hk _ _ _ e2
      obtain ⟨_, e5⟩ := cells?_get e1
      refine ⟨ss, e4, fun k x hx => ?_⟩
      rw [hc] at e5
      exact e5 k _ (by rw [e3, encs, List.getElem?_map, hx]; rfl)
    obtain ⟨rows, hl, hrows⟩ : ∃ rows : List (List S), rows.length = len ∧ ∀ i ss, rows[i]? = some ss → All2 wfS ks ss ∧ ∀ k x, ss[k]? = some x → w.cell? ((a.add (i * ks.length)).add k) = some (DM.enc x) := by
      clear h1 hcm hm hml hlc hv1 hel hf hv heq
      induction len with
      | zero => exact ⟨[], rfl, fun i ss hi => by simp at hi⟩
      | succ len ih =>
        obtain ⟨rows, h2, h3⟩ := ih (fun i hi => row i (by omega))
        obtain ⟨ss, h4⟩ := row len (by omega)
        refine ⟨rows ++ [ss], by simp [h2], fun i ss' hi => ?_⟩
        by_cases hil : i < rows.length
        · rw [List.getElem?_append_left hil] at hi; exact h3 i ss' hi
        · rw [List.getElem?_append_right (by omega)] at hi
          have : i - rows.length = 0 := by
            have := (List.getElem?_eq_some_iff.1 hi).1; simp at this; omega
          rw [this] at hi
          simp at hi; subst hi
          rw [show i = len by omega]; exact h4
    have hall : ∀ x ∈ rows, All2 wfS ks x := fun x hx => by
      obtain ⟨i, hi⟩ := List.getElem?_of_mem hx
      exact (hrows i x hi).1
    obtain ⟨f1, f2⟩ := flatten_rows (rows := rows) (n := ks.length) (fun r hr => (hall r hr).1.symm)
    refine ⟨rows, hall, by omega, ?_⟩
    by_cases hz : len = 0
    · subst hz
      have : rows = [] := List.eq_nil_of_length_eq_zero hl
      subst this
      exact DRel.sl0 _ _ _ _ rfl
    · -- where it lies
      have hcell : ∀ j v, (encs rows.flatten)[j]? = some v → w.cell? (a.add j) = some v := by
        intro j v hj
        have hjl : j < rows.length * ks.length := by
          have := (List.getElem?_eq_some_iff.1 hj).1
          rwa [encs, List.length_map, f1] at this
        have hi : j / ks.length < rows.length := Nat.div_lt_of_lt_mul (by rw [Nat.mul_comm]; exact hjl)
        have hk2 : j % ks.length < ks.length := Nat.mod_lt _ (by omega)
        have hdec : j / ks.length * ks.length + j % ks.length = j := by rw [Nat.mul_comm]; exact Nat.div_add_mod ..
        have hg := f2 _ (j % ks.length) _ (List.getElem?_eq_getElem hi) hk2
        rw [hdec] at hg
        rw [encs, List.getElem?_map, hg, Option.map_eq_some_iff] at hj
        obtain ⟨x, hx, rfl⟩ := hj
        have := (hrows _ _ (List.getElem?_eq_getElem hi)).2 _ x hx
        rwa [Go.Deep.add_add, hdec] at this
      obtain ⟨v0, hv0⟩ : ∃ v0, (encs rows.flatten)[0]? = some v0 := by
        have : 0 < (encs rows.flatten).length := by
          rw [encs, List.length_map, f1]
          exact Nat.mul_pos (by omega) (by omega)
        exact ⟨_, List.getElem?_eq_getElem this⟩
      have h00 := hcell 0 v0 hv0
      obtain ⟨ab, ao, as⟩ := a
      obtain rfl : as = none := by
        unfold World.cell? at h00
        split at h00
        · split at h00
          · cases h00
          · rename_i hs
            cases as with
            | none => rfl
            | some x => simp [Addr.add] at hs
        · cases h00
      have hlt : ab < w.heap.size := by
        unfold World.cell? at h00
        split at h00
        · rename_i hh
          have := (Array.getElem?_eq_some_iff.1 hh).1
          simpa [Addr.add] using this
        · cases h00
      rw [← hl]
      exact DRel.sl _ _ _ ab ao cap hlt (by omega) f1 fun j v hj => by
        have := hcell j v hj
        rwa [Addr.add_mid] at this
end
end Go.DM

/- Arguments as they come: texts of bytes. -/
namespace Go.DM
variable [Tok]
open Go.ChangeShapes Go.WideShapes Go.ChangeAt Go.RowKit
section
variable {H : Type} {enc' : TypeId × Value → H} {P : Program} {w : World} {base : Nat} {sp : Nat → Bool} {held : Bool}
theorem bytes_of : ∀ {rows : List (List S)}, (∀ x ∈ rows, All2 wfS [.int .u8] x) → ∃ l : List UInt8, rows.flatten = u8s l ∧ l.length = rows.length
  | [], _ => ⟨[], rfl, rfl⟩
  | x :: rows, h => by
    obtain ⟨l, h1, h2⟩ := bytes_of (rows := rows) (fun r hr => h r (List.mem_cons_of_mem _ hr))
    have hx := h x (List.mem_cons_self ..)
    have hl : x.length = 1 := by rw [← hx.1]; rfl
    match x, hl with
    | [a], _ =>
      have ha := hx.2 0 (.int .u8) a rfl rfl
      cases a with
      | int k n =>
        obtain ⟨rfl, hn⟩ := ha
        have hb : 0 ≤ n ∧ n ≤ 255 := by simpa [Lit.wf, IntKind.min, IntKind.max, IntKind.signed, IntKind.bits] using hn
        refine ⟨UInt8.ofNat n.toNat :: l, ?_, by simp [h2]⟩
        rw [List.flatten_cons, h1]
        simp [u8s]
        omega
      | _ => exact ha.elim
theorem encs_u8s (l : List UInt8) : encs (u8s l) = l.map fun x => Value.int .u8 (x.toNat : Nat) := by
  simp [encs, u8s, DM.enc]
theorem open_bytes {t e : TypeId} {v : Value} {d : DataW H} {ps : List MemPlace} {r : Reach} {b0 : Nat} (ht : P.underlying t = some (.slice e)) (hk : ksOf P 20 e = some [.int .u8]) (hc : P.cellsOf e = 1)
    (hv : Value.okWide P w r b0 t v) (h : DataW.Trod enc' P w base sp held t v d ps) :
    ∃ (ad : Option Addr) (l : List UInt8) (cap : Nat), v = .slice ad l.length cap ∧ l.length ≤ maxLen ∧ (l ≠ [] → ∃ b o, ad = some ⟨b, o, none⟩ ∧ b < w.heap.size ∧ w.rangeAt b o (l.map fun x => Value.int .u8 (x.toNat : Nat))) := by
  obtain ⟨rows, h1, h2, h3⟩ := open_rows (ρ := id) ht hk hc (by decide) hv h
  obtain ⟨l, h4, h5⟩ := bytes_of h1
  rw [h4, ← h5] at h3
  rw [← h5] at h2
  generalize hn : l.length = n at h3
  generalize hcs : u8s l = cs at h3
  cases h3 with
  | sl0 _ _ a cap _ =>
    refine ⟨a, l, cap, by rw [hn], by omega, fun hne => ?_⟩
    exact absurd (List.eq_nil_of_length_eq_zero hn) hne
  | sl _ _ _ b off cap hI hcap hl hr =>
    refine ⟨_, l, cap, by rw [hn], by omega, fun _ => ⟨b, off, rfl, hI, ?_⟩⟩
    rw [← encs_u8s, hcs]; exact hr
end
abbrev tok2 (a0 a1 : Option Addr) (c0 c1 : Nat) (d0 d1 : List UInt8) : Tok :=
  ⟨fun i => match i with | 0 => a0 | _ => a1, fun i => match i with | 0 => c0 | _ => c1, fun i => match i with | 0 => d0 | 1 => d1 | _ => []⟩
def Kn.up (κ : Kn) (n : Nat) (h : κ.n0 ≤ n) : Kn := ⟨κ.K, n, fun w w' hk hs hb => κ.keep w w' hk hs fun b hb' => hb b (Nat.lt_of_lt_of_le hb' h)⟩
theorem Table.up {P : Program} {ρ : Nat → Nat} {κ : Kn} {Γ : Nat → Option Fn} {n : Nat} (hn : κ.n0 ≤ n) (h : Table P ρ κ Γ) : Table P ρ (κ.up n hn) Γ := fun f fn hf =>
  ⟨(h f fn hf).1, fun o ho as r hr w vs rs ha hk hsz hM => (h f fn hf).2 o ho as r hr w vs rs ha hk (Nat.le_trans hn hsz) fun m hm => Nat.le_trans hn (hM m hm)⟩
end Go.DM

/- Rules for bits of 16. -/
namespace Go.DM
variable [Tok]
open Go.IntWalk
theorem wrap16 {n : Int} (h : 0 ≤ n ∧ n < 65536) : IntKind.u16.wrap n = n := by
  show n % 65536 = n
  exact Int.emod_eq_of_lt h.1 h.2
theorem two_pow_lt {j : Nat} (h : j < 16) : (2 : Nat) ^ j < 65536 := Nat.pow_lt_pow_right (by decide) h
section
variable {dsts : Nat → Option Nat} {ops : List Oper} {Q : St → Prop} {σ : St} {d : Option Nat} {gd : Option (Nat × Bool)} {l1 l2 l3 l4 : List Nat} {Γ : Nat → Option Fn}
theorem quiet_b1s {a b : Opd} {k : IntKind} {y : Int} (ha : ev σ.env a = .a (.d (.s (.int .u16 1)))) (hb : ev σ.env b = .a (.d (.s (.int k y)))) (hy : 0 ≤ y ∧ y < 16) : quiet σ (.bin .shl a b) = some (.a (.d (.s (.int .u16 (2 ^ y.toNat))))) := by
  simp only [quiet, ha, hb, bin, isShift, if_true, shiftBin]
  rw [if_neg (by omega)]
  have e : Nat.min y.toNat IntKind.u16.bits = y.toNat := Nat.min_eq_left (by show y.toNat ≤ 16; omega)
  rw [e, Int.one_mul, wrap16]
  · rfl
  · have := two_pow_lt (j := y.toNat) (by omega)
    have hp : ((2 : Int) ^ y.toNat) = ((2 ^ y.toNat : Nat) : Int) := by push_cast; rfl
    rw [hp]
    exact ⟨Int.natCast_nonneg _, (Int.ofNat_lt.2 this : ((2 ^ y.toNat : Nat) : Int) < ((65536 : Nat) : Int))⟩
theorem WR.b1s {a b : Opd} {k : IntKind} {y : Int} (hw : wanted dsts σ.env gd = some true) (ha : ev σ.env a = .a (.d (.s (.int .u16 1)))) (hb : ev σ.env b = .a (.d (.s (.int k y)))) (hy : 0 ≤ y ∧ y < 16)
    (K : WR Γ dsts ops Q (set d (.a (.d (.s (.int .u16 (2 ^ y.toNat))))) σ)) : WR Γ dsts (⟨d, .bin .shl a b, gd, l1, l2, l3, l4⟩ :: ops) Q σ := WR.q hw (quiet_b1s ha hb hy) K
theorem WH.b1s {a b : Opd} {k : IntKind} {y : Int} (hw : wanted dsts (kill l1 (only l3 σ)).env gd = some true) (ha : ev (kill l1 (only l3 σ)).env a = .a (.d (.s (.int .u16 1)))) (hb : ev (kill l1 (only l3 σ)).env b = .a (.d (.s (.int k y)))) (hy : 0 ≤ y ∧ y < 16)
    (K : WH Γ dsts ops Q (set d (.a (.d (.s (.int .u16 (2 ^ y.toNat))))) σ)) : WH Γ dsts (⟨d, .bin .shl a b, gd, l1, l2, l3, l4⟩ :: ops) Q σ := WH.q hw (quiet_b1s ha hb hy) rfl K
theorem quiet_bsr {a b : Opd} {k : IntKind} {n y : Int} (ha : ev σ.env a = .a (.d (.s (.int .u16 n)))) (hb : ev σ.env b = .a (.d (.s (.int k y)))) (hy : 0 ≤ y ∧ y < 16) : quiet σ (.bin .shr a b) = some (.a (.d (.s (.int .u16 (n / 2 ^ y.toNat))))) := by
  simp only [quiet, ha, hb, bin, isShift, if_true, shiftBin]
  rw [if_neg (by omega)]
  have e : Nat.min y.toNat IntKind.u16.bits = y.toNat := Nat.min_eq_left (by show y.toNat ≤ 16; omega)
  have hp : ((2 : Int) ^ y.toNat) = ((2 ^ y.toNat : Nat) : Int) := by push_cast; rfl
  rw [e, hp, Int.fdiv_eq_ediv_of_nonneg _ (Int.natCast_nonneg _)]
  rfl
theorem WR.bsr {a b : Opd} {k : IntKind} {n y : Int} (hw : wanted dsts σ.env gd = some true) (ha : ev σ.env a = .a (.d (.s (.int .u16 n)))) (hb : ev σ.env b = .a (.d (.s (.int k y)))) (hy : 0 ≤ y ∧ y < 16)
    (K : WR Γ dsts ops Q (set d (.a (.d (.s (.int .u16 (n / 2 ^ y.toNat))))) σ)) : WR Γ dsts (⟨d, .bin .shr a b, gd, l1, l2, l3, l4⟩ :: ops) Q σ := WR.q hw (quiet_bsr ha hb hy) K
theorem WH.bsr {a b : Opd} {k : IntKind} {n y : Int} (hw : wanted dsts (kill l1 (only l3 σ)).env gd = some true) (ha : ev (kill l1 (only l3 σ)).env a = .a (.d (.s (.int .u16 n)))) (hb : ev (kill l1 (only l3 σ)).env b = .a (.d (.s (.int k y)))) (hy : 0 ≤ y ∧ y < 16)
    (K : WH Γ dsts ops Q (set d (.a (.d (.s (.int .u16 (n / 2 ^ y.toNat))))) σ)) : WH Γ dsts (⟨d, .bin .shr a b, gd, l1, l2, l3, l4⟩ :: ops) Q σ := WH.q hw (quiet_bsr ha hb hy) rfl K
theorem quiet_ba1 {a b : Opd} {n : Int} (ha : ev σ.env a = .a (.d (.s (.int .u16 n)))) (hb : ev σ.env b = .a (.d (.s (.int .u16 1)))) (hn : 0 ≤ n ∧ n < 65536) : quiet σ (.bin .and a b) = some (.a (.d (.s (.int .u16 (n % 2))))) := by
  obtain ⟨m, rfl⟩ : ∃ m : Nat, n = m := ⟨n.toNat, by omega⟩
  have e : ((BitVec.ofInt 16 (m : Int) &&& BitVec.ofInt 16 1).toNat : Int) = (m : Int) % 2 := by
    rw [BitVec.toNat_and, BitVec.ofInt_natCast, BitVec.toNat_ofNat, Nat.mod_eq_of_lt (by omega), show (BitVec.ofInt 16 1).toNat = 1 by decide, Nat.and_one_is_mod]
    omega
  simp only [quiet, ha, hb, bin, isShift, if_true, intBin]
  have e2 : IntKind.u16.wrap ((BitVec.ofInt IntKind.u16.bits (m : Int) &&& BitVec.ofInt IntKind.u16.bits 1).toNat : Int) = (m : Int) % 2 := by
    show IntKind.u16.wrap ((BitVec.ofInt 16 (m : Int) &&& BitVec.ofInt 16 1).toNat : Int) = _
    rw [e, wrap16]; omega
  rw [e2]; rfl
theorem WR.ba1 {a b : Opd} {n : Int} (hw : wanted dsts σ.env gd = some true) (ha : ev σ.env a = .a (.d (.s (.int .u16 n)))) (hb : ev σ.env b = .a (.d (.s (.int .u16 1)))) (hn : 0 ≤ n ∧ n < 65536)
    (K : WR Γ dsts ops Q (set d (.a (.d (.s (.int .u16 (n % 2))))) σ)) : WR Γ dsts (⟨d, .bin .and a b, gd, l1, l2, l3, l4⟩ :: ops) Q σ := WR.q hw (quiet_ba1 ha hb hn) K
theorem WH.ba1 {a b : Opd} {n : Int} (hw : wanted dsts (kill l1 (only l3 σ)).env gd = some true) (ha : ev (kill l1 (only l3 σ)).env a = .a (.d (.s (.int .u16 n)))) (hb : ev (kill l1 (only l3 σ)).env b = .a (.d (.s (.int .u16 1)))) (hn : 0 ≤ n ∧ n < 65536)
    (K : WH Γ dsts ops Q (set d (.a (.d (.s (.int .u16 (n % 2))))) σ)) : WH Γ dsts (⟨d, .bin .and a b, gd, l1, l2, l3, l4⟩ :: ops) Q σ := WH.q hw (quiet_ba1 ha hb hn) rfl K
end
end Go.DM

/- A text cut at each byte: both sides. -/
set_option maxHeartbeats 4000000
namespace Go.DM
variable [Tok]
open Go.IntWalk
end Go.DM

/- slices.Index over cells. -/
namespace Go.DM
variable [Tok]
open Go.IntWalk
theorem index_gives (l : List Cel) (hl : l.length ≤ 1000) (x y : Int) : Gives G 27 [asl l, ac x y] (ri .i64 (idxOf (fun c => x = c.1 ∧ y = c.2) l 0)) := by
  refine Gives.by rfl rfl (W.seq ?_)
  repeat' first | ((with_reducible first | apply WR.mv | apply WR.le); exact rfl; exact rfl) | (with_reducible first | apply WR.nil | refine andThen_n ?_ | refine W.seq ?_ | refine W.region ?_ | refine W.block ?_) | ((with_reducible apply WR.bo); exact rfl; exact rfl; exact rfl)
  refine W.loopI (fun n σ => ∃ i : Int, n = (l.length - i).toNat ∧ 0 ≤ i ∧ i ≤ l.length ∧ idxOf (fun c => x = c.1 ∧ y = c.2) l 0 = idxOf (fun c => x = c.1 ∧ y = c.2) (l.drop i.toNat) i ∧ σ.env 8 = .a (.d (.s (.int .i64 i))) ∧ σ.env 7 = .a (.d (.s (.int .i64 (l.length : Nat)))) ∧ σ.env 0 = .a (.d (.sl l.length 2 (encC l))) ∧ σ.env 3 = .a (.ptr 3 0) ∧ σ.objs 3 = some (.flat false [.int .i8 x, .int .i8 y]))
    ?_ _ _ ⟨0, rfl, by omega, by omega, rfl, rfl, rfl, rfl, rfl, rfl⟩
  rintro n σ ⟨i, rfl, i0, i1, hi, e8, e7, e0, e3, o3⟩
  rw [← set_self e8, ← set_self e7, ← set_self e0, ← set_self e3, ← put_self o3]
  repeat' first | ((with_reducible apply WR.mv); exact rfl; exact rfl) | (with_reducible first | apply WR.nil | refine andThen_n ?_ | refine andThen_x ?_ | refine inB_x ?_ | refine W.seq ?_ | refine W.region ?_ | refine W.skip ?_ | refine W.ret ?_ | refine W.exit ?_ | refine W.block ?_ | refine W.draw ?_) | ((with_reducible apply W.condT); exact rfl) | ((with_reducible apply W.condF); exact rfl) | ((with_reducible apply Done.r); exact rfl) | (intro hb; try (exfalso; omega)) | ((with_reducible first | apply WH.mv | apply WH.lx | apply WR.lss); iterate 3 exact rfl)
  · obtain ⟨c, hc⟩ := get_of_lt i0 (by assumption)
    (with_reducible apply WH.id); (iterate 3 exact rfl); exact ⟨i0, by assumption⟩; exact Nat.le_of_eq (encC_length l).symm; exact rfl
    (with_reducible apply WH.ldd); exact rfl; exact rfl; exact encC_load l _ c hc; exact rfl
    repeat' first | ((with_reducible apply WR.mv); exact rfl; exact rfl) | (with_reducible first | apply WR.nil | refine andThen_n ?_ | refine andThen_r ?_ | refine inB_n ?_ | refine inB_r ?_ | refine W.seq ?_ | refine W.region ?_ | refine W.skip ?_ | refine W.ret ?_ | apply WH.nil) | ((with_reducible apply W.condT); exact rfl) | ((with_reducible apply W.condF); exact rfl) | ((with_reducible apply Done.r); exact rfl) | (intro hb; try (exfalso; omega)) | ((with_reducible apply WR.ad); (iterate 3 exact rfl); (exact i64_in _ (by omega))) | ((with_reducible apply WH.ec); iterate 3 exact rfl)
    all_goals first
      | (rw [hi, idxOf_step _ i0 hc, if_pos (by assumption)]; rfl)
      | exact ⟨_, by omega, i + 1, rfl, by omega, by omega, by rw [hi, idxOf_step _ i0 hc, if_neg (by assumption)], rfl, rfl, rfl, rfl, rfl⟩
  · have : l.drop i.toNat = [] := List.drop_eq_nil_of_le (by omega)
    rw [hi, this]; rfl
end Go.DM

/- Some nights of a mole: the program's side. -/
namespace Go.DM
variable [Tok]
open Go.IntWalk
variable {w h : Int} {g : Nat → Int} {cs : List S} {q : Nat → Int} {qs : List S}
structure Mole where
  q : Nat → Int
  qs : List S
  a : Cel
  b : Cel
def nextQ (q : Nat → Int) (t : Cel) : Nat → Int := if lv q t < 9 then levSet q (10 * t.2.toNat + t.1.toNat) (lv q t + 1) else q
def Mole.next (w h : Int) (g : Nat → Int) (m : Mole) : Mole := ⟨nextQ m.q (goes w h g m.q m.a m.b), nightLev m.q m.qs (goes w h g m.q m.a m.b), goes w h g m.q m.a m.b, m.a⟩
def Mole.after (w h : Int) (g : Nat → Int) (m : Mole) : Nat → Mole
  | 0 => m
  | n + 1 => (m.after w h g n).next w h g
structure Mole.Ok (m : Mole) : Prop where
  v : IsLev m.q m.qs
  a : 0 ≤ m.a.1 ∧ m.a.1 < 10 ∧ 0 ≤ m.a.2 ∧ m.a.2 < 10
theorem lowest_mem (q : Nat → Int) (a : Cel) : ∀ l : List Cel, lowest q a l = a ∨ lowest q a l ∈ l
  | [] => .inl rfl
  | c :: r => by
    refine .inr ?_
    have key : ∀ (r : List Cel) (t : Cel), r.foldl (fun t c => if lv q c < lv q t then c else t) t = t ∨ r.foldl (fun t c => if lv q c < lv q t then c else t) t ∈ r := by
      intro r
      induction r with
      | nil => intro t; exact .inl rfl
      | cons d r ih =>
        intro t
        simp only [List.foldl_cons]
        rcases ih (if lv q d < lv q t then d else t) with h | h
        · rw [h]; split
          · exact .inr (List.mem_cons_self ..)
          · exact .inl rfl
        · exact .inr (List.mem_cons_of_mem _ h)
    rcases key r c with h | h
    · simp only [lowest, h]; exact List.mem_cons_self ..
    · simp only [lowest]; exact List.mem_cons_of_mem _ h
theorem goes_in (hs : w ≤ 10 ∧ h ≤ 10) (q : Nat → Int) {a b : Cel} (ha : 0 ≤ a.1 ∧ a.1 < 10 ∧ 0 ≤ a.2 ∧ a.2 < 10) : 0 ≤ (goes w h g q a b).1 ∧ (goes w h g q a b).1 < 10 ∧ 0 ≤ (goes w h g q a b).2 ∧ (goes w h g q a b).2 < 10 := by
  unfold goes
  rcases lowest_mem q a (if 1 < (kept (fun c => ¬ Is w h g 0 c.1 c.2) (Near a.1 a.2)).length then kept (fun c => c.1 = b.1 ∧ c.2 = b.2) (kept (fun c => ¬ Is w h g 0 c.1 c.2) (Near a.1 a.2)) else kept (fun c => ¬ Is w h g 0 c.1 c.2) (Near a.1 a.2)) with e | e
  · simp only [e]; exact ha
  · exact near_in hs e
theorem Mole.Ok.next (hs : w ≤ 10 ∧ h ≤ 10) {m : Mole} (k : m.Ok) : (m.next w h g).Ok := by
  have hin := goes_in (g := g) hs m.q (b := m.b) k.a
  refine ⟨?_, hin⟩
  simp only [Mole.next, nextQ, nightLev]
  generalize goes w h g m.q m.a m.b = t at hin
  have hk : 10 * t.2.toNat + t.1.toNat < 100 := by omega
  have := k.v.cb _ hk
  split
  · rename_i h9; exact k.v.set hk (by simp only [lv] at h9 ⊢; omega)
  · exact k.v
theorem Mole.Ok.after (hs : w ≤ 10 ∧ h ≤ 10) {m : Mole} (k : m.Ok) : ∀ n, (m.after w h g n).Ok
  | 0 => k
  | n + 1 => (k.after hs n).next hs
section
variable {Γ : Nat → Option Fn} {dsts : Nat → Option Nat} {ops : List Oper} {Q : St → Prop} {σ : St} {gd : Option (Nat × Bool)} {l1 l2 l3 l4 : List Nat}
end
end Go.DM

/- The cells beside a cell, of the reference. -/
namespace Go.DM
variable [Tok]
open Go.IntWalk
variable {w h : Int} {g : Nat → Int} {cs : List S} {q : Nat → Int} {qs : List S}
def inside (w h : Int) (l : List Cel) : List Cel := l.filter fun c => decide (Has w h c.1 c.2)
theorem filter_snoc {α : Type} {p : α → Bool} {l : List α} {i : Nat} {c : α} (h : l[i]? = some c) : (l.take (i + 1)).filter p = (l.take i).filter p ++ (if p c then [c] else []) := by
  rw [List.take_add_one, h, List.filter_append]
  congr 1
  simp only [Option.toList_some, List.filter_cons, List.filter_nil]
theorem Near_b {x y : Int} {c : Cel} (h : c ∈ Near x y) : x - 1 ≤ c.1 ∧ c.1 ≤ x + 1 ∧ y - 1 ≤ c.2 ∧ c.2 ≤ y + 1 := by
  simp only [Near, List.mem_cons, List.not_mem_nil, or_false] at h
  rcases h with rfl | rfl | rfl | rfl <;> simp <;> omega
theorem inside_step {w h : Int} {l : List Cel} {i : Nat} (hi : i < l.length) : inside w h (l.take (i + 1)) = inside w h (l.take i) ++ (if Has w h (gC l i).1 (gC l i).2 then [gC l i] else []) := by
  unfold inside; rw [filter_snoc (gC_get hi)]; congr 1; simp only [decide_eq_true_eq]
theorem inside_len {w h : Int} {l : List Cel} : (inside w h l).length ≤ l.length := List.length_filter_le ..
theorem l01Beside_gives (l : IsLawn w h g cs) (x y : Int) (hx : -127 ≤ x ∧ x ≤ 126 ∧ -127 ≤ y ∧ y ≤ 126) : Gives G 85 [ar cs, ac x y] ⟨[.own (inside w h (Near x y)).length 2 (encC (inside w h (Near x y)))], []⟩ := by
  refine Gives.by rfl rfl (W.seq ?_)
  repeat' first | ((with_reducible first | apply WR.mv | apply WR.lx | apply WR.fa); exact rfl; exact rfl) | ((with_reducible apply WR.bC); iterate 3 exact rfl) | ((with_reducible apply WR.ad); (iterate 3 exact rfl); (exact i8_in _ (by omega))) | ((with_reducible apply WR.bs0); exact rfl; exact rfl) | ((with_reducible apply WR.bs4); (iterate 5 exact rfl); exact rfl) | (with_reducible first | apply WR.nil | refine andThen_n ?_ | refine W.seq ?_ | refine W.region ?_ | refine W.block ?_) | ((with_reducible apply WR.sb); (iterate 3 exact rfl); (exact i8_in _ (by omega))) | ((with_reducible apply WR.bx); exact rfl; exact rfl; exact (by first | exact rfl); exact rfl)
  have hN : (Near x y).length = 4 := rfl
  (refine (?_ : W _ (Code.loop _) _ _))
  (refine W.loopM [0, 5] [] [51, 52] (fun ((i, out) : (Nat) × (List Cel)) => (4 - i : Nat)) (fun ((i, out) : (Nat) × (List Cel)) => (i ≤ 4 ∧ out.length ≤ 4 ∧ out = inside w h ((Near x y).take i) : Prop)) (fun z : (Nat) × (List Cel) => match z with | (i, out) => [(6, .a (.sl 33 0 out.length 2)), (7, .a (.d (.s (.int .i64 (i : Nat)))))]) (fun z : (Nat) × (List Cel) => match z with | (i, out) => [(33, .flat false (encC out)), (32, .flat false (encC (Near x y)))]) (0, []) (⟨by omega, by simp, by simp [inside]⟩) ⟨rfl, rfl, trivial⟩ ⟨rfl, rfl, trivial⟩ ⟨np, np, trivial⟩ ?_)
  rintro ⟨i, out⟩ σ hP hN; dsimp only [setL, putL] at hP ⊢; obtain ⟨n51, hN⟩ := hN; obtain ⟨n52, hN⟩ := hN
  obtain ⟨hi, hl, ho⟩ := hP
  repeat' first | ((with_reducible first | apply WR.mv | apply WR.le); exact rfl; exact rfl) | ((with_reducible apply WR.ld); (iterate 3 exact rfl); (first | exact ldC (by first | omega))) | (with_reducible first | apply WR.nil | refine andThen_n ?_ | refine andThen_x ?_ | refine inB_x ?_ | refine W.seq ?_ | refine W.region ?_ | refine W.skip ?_ | refine W.ret ?_ | refine W.exit ?_ | refine W.block ?_) | ((with_reducible apply W.condT); exact rfl) | ((with_reducible apply W.condF); exact rfl) | ((with_reducible apply Done.f); (intro hh hh2; exact (nomatch hh2)); (focus ((repeat' first | exact all_nil | apply all_cons | exact res_tmp rfl | exact rfl); done)); (focus ((repeat' first | exact all_nil | apply all_cons | exact retOf_o rfl rfl (by first | exact encC_length _ | exact rfl) | exact rfl); done)); exact rfl; (focus ((repeat' first | exact outs_nil | apply outs_d | exact rfl); done))) | (intro hb; try (exfalso; omega)) | ((with_reducible apply WR.isn); (iterate 3 exact rfl); omega) | ((with_reducible apply WR.lss); iterate 3 exact rfl)
  · have hb := Near_b (gC_mem (l := Near x y) (k := i) (by omega))
    have hs := inside_step (w := w) (h := h) (l := Near x y) (i := i) (by omega)
    have hs2 := inside_len (w := w) (h := h) (l := (Near x y).take (i + 1))
    have hs3 : ((Near x y).take (i + 1)).length ≤ 4 := by rw [List.length_take]; omega
    repeat' first | ((with_reducible apply WR.c_p (f := 50) (fn := Code.f50)); (iterate 3 exact rfl); exact rfl; (focus ((repeat' first | exact args_nil | apply args_d | exact toD_d rfl | exact rfl); done)); exact l01Is_gives (by assumption) _ _ (by omega)) | ((with_reducible apply WR.mv); exact rfl; exact rfl) | ((with_reducible apply WR.ld); (iterate 3 exact rfl); (first | exact ldC (by first | omega))) | ((with_reducible apply WR.ad); (iterate 3 exact rfl); (first | exact i64_in _ (by omega) | assumption)) | ((with_reducible apply WR.bs1); exact rfl; exact rfl; (first | exact rfl | assumption)) | (with_reducible first | apply WR.nil | refine andThen_n ?_ | refine inB_n ?_ | refine W.region ?_ | refine W.skip ?_) | ((with_reducible apply W.condT); exact rfl) | ((with_reducible apply W.condF); exact rfl) | (intro hb; try (exfalso; omega)) | ((with_reducible apply WR.isn); (iterate 3 exact rfl); omega) | ((with_reducible apply WR.apC); (iterate 4 exact rfl); omega)
    · rw [if_pos (by assumption), ← ho] at hs
      (refine W.nxt (i + 1, out ++ [gC (Near x y) i]) (by first | omega | (dsimp only; omega)) ?_ ⟨rfl, rfl, trivial⟩ ⟨rfl, rfl, trivial⟩ ⟨rfl, rfl, trivial⟩ trivial ⟨np, np, trivial⟩); (try dsimp only)
      exact ⟨by omega, by rw [← hs]; omega, hs.symm⟩
    · rw [if_neg (by assumption), List.append_nil, ← ho] at hs
      (refine W.nxt (i + 1, out) (by first | omega | (dsimp only; omega)) ?_ ⟨rfl, rfl, trivial⟩ ⟨rfl, rfl, trivial⟩ ⟨rfl, rfl, trivial⟩ trivial ⟨np, np, trivial⟩); (try dsimp only)
      exact ⟨by omega, by omega, hs.symm⟩
  · rw [ho, List.take_of_length_le (by omega)]; rfl
end Go.DM
