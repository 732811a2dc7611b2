/- Rows of rounds. -/
import Derived.Test.YtaocbbdkiemhaaaK356Text
import Derived.Test.YtaocbbdkiemhaaaK356Y
import Derived.Deep.Slices
import Derived.Test.YtaocbbdkiemhaaaK356Night
set_option linter.unusedSimpArgs false
set_option linter.unusedVariables false
namespace Go.DM
set_option linter.unusedSectionVars false
variable [Tok]
open Go.IntWalk
abbrev Rnd := Int × Bool
def encO : List Rnd → List S
  | [] => []
  | r :: l => .int .i8 r.1 :: .bool r.2 :: encO l
theorem encO_length : ∀ l, (encO l).length = l.length * 2
  | [] => rfl
  | n :: r => by simp only [encO, List.length_cons, encO_length r, Nat.succ_mul]
theorem encO_append : ∀ a b, encO (a ++ b) = encO a ++ encO b
  | [], b => rfl
  | n :: r, b => by simp only [List.cons_append, encO, encO_append r b]
abbrev gO (l : List Rnd) (k : Nat) : Rnd := l.getD k (0, false)
theorem gO_get {l : List Rnd} {k : Nat} (h : k < l.length) : l[k]? = some (gO l k) := by
  simp [gO, List.getD_eq_getElem?_getD, h]
theorem gO_mem {l : List Rnd} {k : Nat} (h : k < l.length) : gO l k ∈ l := List.mem_of_getElem? (gO_get h)
theorem encO_at : ∀ {l : List Rnd} {k : Nat}, k < l.length → (encO l)[k * 2]? = some (.int .i8 (gO l k).1) ∧ (encO l)[k * 2 + 1]? = some (.bool (gO l k).2)
  | [], k, h => by simp at h
  | r :: l, 0, h => ⟨rfl, rfl⟩
  | r :: l, k + 1, h => by
    have := encO_at (l := l) (k := k) (by simpa using h)
    rw [show (k + 1) * 2 = k * 2 + 2 by omega, show k * 2 + 2 + 1 = (k * 2 + 1) + 2 by omega]
    simpa [encO, gO] using this
theorem loadC_two {cs : List S} {k : Nat} {a b : S} (h1 : cs[k]? = some a) (h2 : cs[k + 1]? = some b) : loadC 2 true cs k = some (.a (.d (.agg [a, b]))) := by
  have hb := (List.getElem?_eq_some_iff.1 h2).1
  simp only [loadC, ofCells, av, if_true]
  rw [if_pos (by omega)]
  congr 3
  have : (cs.drop k).take 2 = [a, b] := by
    apply List.ext_getElem?
    intro i
    rw [List.getElem?_take, List.getElem?_drop]
    match i with
    | 0 => simpa using h1
    | 1 => simpa using h2
    | i + 2 => simp; omega
  rw [this]
theorem ldO {l : List Rnd} {k : Nat} (h : k < l.length) : loadC 2 true (encO l) (0 + k * 2) = some (.a (.d (.agg [.int .i8 (gO l k).1, .bool (gO l k).2]))) := by
  rw [Nat.zero_add]; exact loadC_two (encO_at h).1 (encO_at h).2
theorem ldOd {l : List Rnd} {k : Nat} (h : k < l.length) : loadC 2 true (encO l) (k * 2) = some (.a (.d (.agg [.int .i8 (gO l k).1, .bool (gO l k).2]))) := loadC_two (encO_at h).1 (encO_at h).2
theorem ldOx {l : List Rnd} {k : Nat} (h : k < l.length) : loadC 1 false (encO l) (0 + k * 2 + 0) = some (.a (.d (.s (.int .i8 (gO l k).1)))) := loadC_one (by rw [Nat.zero_add, Nat.add_zero]; exact (encO_at h).1)
theorem ldOy {l : List Rnd} {k : Nat} (h : k < l.length) : loadC 1 false (encO l) (0 + k * 2 + 1) = some (.a (.d (.s (.bool (gO l k).2)))) := loadC_one (by rw [Nat.zero_add]; exact (encO_at h).2)
theorem ldOxd {l : List Rnd} {k : Nat} (h : k < l.length) : loadC 1 false (encO l) (k * 2 + 0) = some (.a (.d (.s (.int .i8 (gO l k).1)))) := loadC_one (by rw [Nat.add_zero]; exact (encO_at h).1)
theorem ldOyd {l : List Rnd} {k : Nat} (h : k < l.length) : loadC 1 false (encO l) (k * 2 + 1) = some (.a (.d (.s (.bool (gO l k).2)))) := loadC_one (encO_at h).2
theorem encO_set : ∀ {l : List Rnd} {k : Nat} (r : Rnd), k < l.length → (encO l).take (k * 2) ++ [.int .i8 r.1, .bool r.2] ++ (encO l).drop (k * 2 + 2) = encO (l.set k r)
  | [], k, r, h => by simp at h
  | a :: l, 0, r, h => by simp [encO]
  | a :: l, k + 1, r, h => by
    have := encO_set (l := l) (k := k) r (by simpa using h)
    rw [show (k + 1) * 2 = k * 2 + 2 by omega]
    simp only [encO, List.set_cons_succ]
    rw [← this]
    simp
theorem stO {p : Bool} {l : List Rnd} {k : Nat} {x : Int} {y : Bool} (h : k < l.length) : storeO 2 (.a (.d (.agg [.int .i8 x, .bool y]))) (0 + k * 2) (.flat p (encO l)) = some (.flat p (encO (l.set k (x, y)))) := by
  have h3 := encO_length l
  simp only [storeO, cellsOf, Nat.zero_add]
  rw [if_pos ⟨rfl, by omega⟩, ← encO_set (x, y) h]
theorem encO_rep : ∀ n : Nat, replicate n [.int .i8 0, .bool false] = encO (List.replicate n (0, false))
  | 0 => rfl
  | n + 1 => by
    have ih := encO_rep n
    simp only [replicate, List.replicate_succ, List.flatten_cons] at ih ⊢
    rw [ih]; rfl
theorem apR_dl {σ : St} {d : Option Nat} {p : Nat} {a b : Opd} {l : List Rnd} {x : Int} {y : Bool} (ha : ev σ.env a = .a (.sl p 0 l.length 2)) (ho : σ.objs p = some (.flat false (encO l))) (hb : elems σ.objs 2 (ev σ.env b) = some (1, [.int .i8 x, .bool y])) (h2 : l.length ≤ 100000000) {Γ : Nat → Option Fn} {call : Calls} :
    delta Γ call d σ (.app 2 a b) = some ⟨.a (.sl p 0 (l ++ [(x, y)]).length 2), [p], [(p, .flat false (encO (l ++ [(x, y)])))]⟩ := by
  have hl := encO_length l
  simp only [delta, append, ha, hb, ho]
  rw [if_pos ⟨trivial, by omega, by simp only [big]; omega⟩, encO_append, List.length_append, List.drop_zero, List.take_of_length_le (by omega)]
  rfl
section
variable {dsts : Nat → Option Nat} {ops : List Oper} {Q : St → Prop} {σ : St} {d : Option Nat} {g : Option (Nat × Bool)} {l1 l2 l3 l4 : List Nat} {Γ : Nat → Option Fn}
theorem WR.apR {p : Nat} {a b : Opd} {l : List Rnd} {x : Int} {y : Bool} (hw : wanted dsts σ.env g = some true) (ha : ev σ.env a = .a (.sl p 0 l.length 2)) (ho : σ.objs p = some (.flat false (encO l))) (hb : elems σ.objs 2 (ev σ.env b) = some (1, [.int .i8 x, .bool y])) (h2 : l.length ≤ 100000000)
    (k : WR Γ dsts ops Q (set d (.a (.sl p 0 (l ++ [(x, y)]).length 2)) (put p (.flat false (encO (l ++ [(x, y)]))) (kill [p] σ)))) : WR Γ dsts (⟨d, .app 2 a b, g, l1, l2, l3, l4⟩ :: ops) Q σ :=
  WR.cons ⟨0, step_dl hw (apR_dl ha ho hb h2) (by rw [noPar_one]; intro cs e; rw [ho] at e; cases e)⟩ k
theorem WR.bsR0 {e : Nat} (hw : wanted dsts σ.env g = some true) (hp : noPar σ [e] = true) (k : WR Γ dsts ops Q (set (some e) (.a (.sl e 0 0 2)) (put e (.flat false (encO [])) (kill [e] σ)))) : WR Γ dsts (⟨some e, .bsl 2 0 [.int .i8 0, .bool false] [], g, l1, l2, l3, l4⟩ :: ops) Q σ :=
  WR.mk (d := e) (ob := .flat false (encO [])) hw rfl rfl (by simp [makes, all?, cellsOf, fill, replicate, List.replicate, encO]) hp k
theorem WR.bsR1 {e : Nat} {a0 : Opd} {x : Int} {y : Bool} (hw : wanted dsts σ.env g = some true) (h0 : ev σ.env a0 = .a (.d (.agg [.int .i8 x, .bool y]))) (hp : noPar σ [e] = true) (k : WR Γ dsts ops Q (set (some e) (.a (.sl e 0 1 2)) (put e (.flat false (encO [(x, y)])) (kill [e] σ)))) : WR Γ dsts (⟨some e, .bsl 2 1 [.int .i8 0, .bool false] [(0, a0)], g, l1, l2, l3, l4⟩ :: ops) Q σ :=
  WR.mk (d := e) (ob := .flat false (encO [(x, y)])) hw rfl rfl (by simp [makes, all?, h0, cellsOf, fill, replicate, List.replicate, encO]) hp k
theorem WR.mksR {e n : Nat} {k1 k2 : IntKind} {l c : Opd} (hw : wanted dsts σ.env g = some true) (hl : ev σ.env l = .a (.d (.s (.int k1 (n : Nat))))) (hc : ev σ.env c = .a (.d (.s (.int k2 (n : Nat))))) (hn : n ≤ 2000000) (hp : noPar σ [e] = true)
    (K : WR Γ dsts ops Q (set (some e) (.a (.sl e 0 n 2)) (put e (.flat false (encO (List.replicate n (0, false)))) (kill [e] σ)))) : WR Γ dsts (⟨some e, .mks 2 [.int .i8 0, .bool false] l c, g, l1, l2, l3, l4⟩ :: ops) Q σ := by
  refine WR.mk (d := e) (ob := .flat false (encO (List.replicate n (0, false)))) hw rfl rfl ?_ hp K
  simp only [makes, hl, hc, asI]
  rw [if_pos ⟨by omega, by trivial, by simp only [big]; omega, by trivial⟩, Int.toNat_natCast, encO_rep]
theorem WR.bRn {a b : Opd} {x : Int} {y : Bool} (hw : wanted dsts σ.env g = some true) (ha : ev σ.env a = .a (.d (.s (.int .i8 x)))) (hb : ev σ.env b = .a (.d (.s (.bool y)))) (k : WR Γ dsts ops Q (set d (.a (.d (.agg [.int .i8 x, .bool y]))) σ)) : WR Γ dsts (⟨d, .build [.int .i8 0, .bool false] [(0, 1, a), (1, 1, b)], g, l1, l2, l3, l4⟩ :: ops) Q σ :=
  WR.q hw (by simp [quiet, all?, ha, hb, cellsOf, fill, av]) k
end
end Go.DM

/- Arguments as they come: slices of plain rows. -/
set_option linter.unusedSimpArgs false
set_option linter.unusedVariables false
namespace Go.DM
set_option linter.unusedSectionVars false
variable [Tok]
open Go.ChangeShapes Go.WideShapes Go.ChangeAt Go.RowKit
section
variable {H : Type} {enc' : TypeId × Value → H} {P : Program} {w : World} {base : Nat} {sp : Nat → Bool} {held : Bool}
theorem mapM_get {α β : Type} {f : α → Option β} : ∀ {l : List α} {r : List β}, l.mapM f = some r → l.length = r.length ∧ ∀ (i : Nat) (a : α), l[i]? = some a → ∃ b, r[i]? = some b ∧ f a = some b
  | [], r, h => by
    simp at h; subst h
    exact ⟨rfl, fun i a ha => by simp at ha⟩
  | x :: l, r, h => by
    simp only [List.mapM_cons, Option.bind_eq_bind, Option.bind_eq_some_iff, Option.pure_def, Option.some.injEq] at h
    obtain ⟨b, hb, r', hr', rfl⟩ := h
    obtain ⟨h1, h2⟩ := mapM_get hr'
    refine ⟨by simp [h1], fun i a ha => ?_⟩
    cases i with
    | zero => simp at ha; subst ha; exact ⟨b, rfl, hb⟩
    | succ i => exact h2 i a (by simpa using ha)
theorem cells?_get {b : Nat} {a : Addr} {n : Nat} {cs : List Value} (h : w.cells? b a n = some cs) : cs.length = n ∧ ∀ i v, cs[i]? = some v → w.cell? (a.add i) = some v := by
  unfold World.cells? at h
  split at h
  · obtain ⟨h1, h2⟩ := mapM_get h
    rw [List.length_range] at h1
    refine ⟨h1.symm, fun i v hv => ?_⟩
    have hi : i < n := by rw [h1]; exact (List.getElem?_eq_some_iff.1 hv).1
    obtain ⟨u, e1, e2⟩ := h2 i i (by simp [hi])
    rw [hv] at e1; cases e1
    exact e2
  · cases h
theorem flatten_rows {n : Nat} : ∀ {rows : List (List S)}, (∀ r ∈ rows, r.length = n) → rows.flatten.length = rows.length * n ∧ ∀ (i k : Nat) (r : List S), rows[i]? = some r → k < n → rows.flatten[i * n + k]? = r[k]?
  | [], _ => ⟨by simp, fun i k r h => by simp at h⟩
  | r :: rows, h => by
    obtain ⟨h1, h2⟩ := flatten_rows (rows := rows) (n := n) (fun r hr => h r (List.mem_cons_of_mem _ hr))
    have hr := h r (List.mem_cons_self ..)
    refine ⟨by simp only [List.flatten_cons, List.length_append, List.length_cons, h1, hr, Nat.succ_mul]; omega, fun i k r' hi hk => ?_⟩
    cases i with
    | zero =>
      simp at hi; subst hi
      rw [List.flatten_cons, Nat.zero_mul, Nat.zero_add, List.getElem?_append_left (by omega)]
    | succ i =>
      rw [List.flatten_cons, List.getElem?_append_right (by rw [hr, Nat.succ_mul]; omega), hr, show (i + 1) * n + k - n = i * n + k by rw [Nat.succ_mul]; omega]
      exact h2 i k r' (by simpa using hi) hk
/-- A slice of rows of plain cells. -/
theorem open_rows {ρ : Nat → Nat} {t e : TypeId} {ks : List SK} {v : Value} {d : DataW H} {ps : List MemPlace} {r : Reach} {b0 : Nat} (ht : P.underlying t = some (.slice e)) (hk : ksOf P 20 e = some ks) (hc : P.cellsOf e = ks.length) (h0 : ks.length ≠ 0)
    (hv : Value.okWide P w r b0 t v) (h : DataW.Trod enc' P w base sp held t v d ps) :
    ∃ rows : List (List S), (∀ x ∈ rows, All2 wfS ks x) ∧ rows.length ≤ maxLen ∧ DRel ρ (fun b => b < w.heap.size) w (.sl rows.length ks.length rows.flatten) v := by
  obtain ⟨fuel, hf⟩ := h
  have hv1 : ∀ u : Value, v.cells.toList = [u] → u.cells = #[u] → v = u := by
    intro u hu hu1
    cases v <;> first
      | (simpa [Value.cells] using hu)
      | (exfalso; unfold Value.okWide at hv; simp [ht, Cell.okWide, Cell.ok] at hv)
  rcases Go.Deep.open_slice ht hf with ⟨h1, _⟩ | ⟨a, len, cap, m, n, D, Pl, h1, hb, hlc, hcm, hm, heq, hel⟩
  · have := hv1 _ h1 rfl
    subst this
    exact ⟨[], fun x hx => (by cases hx), Nat.zero_le _, DRel.sl0 _ _ _ _ rfl⟩
  · have := hv1 _ h1 rfl
    subst this
    have hml : len ≤ m := by rw [hm]; split <;> omega
    -- the rows
    have row : ∀ i, i < len → ∃ ss, All2 wfS ks ss ∧ ∀ k x, ss[k]? = some x → w.cell? ((a.add (i * ks.length)).add k) = some (DM.enc x) := by
      intro i hi
      obtain ⟨cs', e1, e2⟩ := hel i (by omega)
      obtain ⟨ss, e3, e4⟩ := ksOf_open 20 e ks hk _ _ _ e2
      obtain ⟨_, e5⟩ := cells?_get e1
      refine ⟨ss, e4, fun k x hx => ?_⟩
      rw [hc] at e5
      exact e5 k _ (by rw [e3, encs, List.getElem?_map, hx]; rfl)
    obtain ⟨rows, hl, hrows⟩ : ∃ rows : List (List S), rows.length = len ∧ ∀ i ss, rows[i]? = some ss → All2 wfS ks ss ∧ ∀ k x, ss[k]? = some x → w.cell? ((a.add (i * ks.length)).add k) = some (DM.enc x) := by
      clear h1 hcm hm hml hlc hv1 hel hf hv heq
      induction len with
      | zero => exact ⟨[], rfl, fun i ss hi => by simp at hi⟩
      | succ len ih =>
        obtain ⟨rows, h2, h3⟩ := ih (fun i hi => row i (by omega))
        obtain ⟨ss, h4⟩ := row len (by omega)
        refine ⟨rows ++ [ss], by simp [h2], fun i ss' hi => ?_⟩
        by_cases hil : i < rows.length
        · rw [List.getElem?_append_left hil] at hi; exact h3 i ss' hi
        · rw [List.getElem?_append_right (by omega)] at hi
          have : i - rows.length = 0 := by
            have := (List.getElem?_eq_some_iff.1 hi).1; simp at this; omega
          rw [this] at hi
          simp at hi; subst hi
          rw [show i = len by omega]; exact h4
    have hall : ∀ x ∈ rows, All2 wfS ks x := fun x hx => by
      obtain ⟨i, hi⟩ := List.getElem?_of_mem hx
      exact (hrows i x hi).1
    obtain ⟨f1, f2⟩ := flatten_rows (rows := rows) (n := ks.length) (fun r hr => (hall r hr).1.symm)
    refine ⟨rows, hall, by omega, ?_⟩
    by_cases hz : len = 0
    · subst hz
      have : rows = [] := List.eq_nil_of_length_eq_zero hl
      subst this
      exact DRel.sl0 _ _ _ _ rfl
    · -- where it lies
      have hcell : ∀ j v, (encs rows.flatten)[j]? = some v → w.cell? (a.add j) = some v := by
        intro j v hj
        have hjl : j < rows.length * ks.length := by
          have := (List.getElem?_eq_some_iff.1 hj).1
          rwa [encs, List.length_map, f1] at this
        have hi : j / ks.length < rows.length := Nat.div_lt_of_lt_mul (by rw [Nat.mul_comm]; exact hjl)
        have hk2 : j % ks.length < ks.length := Nat.mod_lt _ (by omega)
        have hdec : j / ks.length * ks.length + j % ks.length = j := by rw [Nat.mul_comm]; exact Nat.div_add_mod ..
        have hg := f2 _ (j % ks.length) _ (List.getElem?_eq_getElem hi) hk2
        rw [hdec] at hg
        rw [encs, List.getElem?_map, hg, Option.map_eq_some_iff] at hj
        obtain ⟨x, hx, rfl⟩ := hj
        have := (hrows _ _ (List.getElem?_eq_getElem hi)).2 _ x hx
        rwa [Go.Deep.add_add, hdec] at this
      obtain ⟨v0, hv0⟩ : ∃ v0, (encs rows.flatten)[0]? = some v0 := by
        have : 0 < (encs rows.flatten).length := by
          rw [encs, List.length_map, f1]
          exact Nat.mul_pos (by omega) (by omega)
        exact ⟨_, List.getElem?_eq_getElem this⟩
      have h00 := hcell 0 v0 hv0
      obtain ⟨ab, ao, as⟩ := a
      obtain rfl : as = none := by
        unfold World.cell? at h00
        split at h00
        · split at h00
          · cases h00
          · rename_i hs
            cases as with
            | none => rfl
            | some x => simp [Addr.add] at hs
        · cases h00
      have hlt : ab < w.heap.size := by
        unfold World.cell? at h00
        split at h00
        · rename_i hh
          have := (Array.getElem?_eq_some_iff.1 hh).1
          simpa [Addr.add] using this
        · cases h00
      rw [← hl]
      exact DRel.sl _ _ _ ab ao cap hlt (by omega) f1 fun j v hj => by
        have := hcell j v hj
        rwa [Addr.add_mid] at this
end
def roundKs : List SK := [.int .i8, .bool]
theorem rounds_of : ∀ {rows : List (List S)}, (∀ x ∈ rows, All2 wfS roundKs x) → ∃ l : List (Int × Bool), rows.flatten = encO l ∧ l.length = rows.length ∧ ∀ r ∈ l, -128 ≤ r.1 ∧ r.1 ≤ 127
  | [], _ => ⟨[], rfl, rfl, fun r hr => by cases hr⟩
  | x :: rows, h => by
    obtain ⟨l, h1, h2, h3⟩ := rounds_of (rows := rows) (fun r hr => h r (List.mem_cons_of_mem _ hr))
    have hx := h x (List.mem_cons_self ..)
    obtain ⟨h4, h5⟩ := i8_at hx (k := 0) rfl
    have hl : x.length = 2 := by rw [← hx.1]; rfl
    match x, hl with
    | [a, b], _ =>
      simp at h4
      have hb := hx.2 1 .bool b rfl rfl
      cases b with
      | bool y =>
        refine ⟨(intAt [a, .bool y] 0, y) :: l, by rw [List.flatten_cons, h1, encO, ← h4]; rfl, by simp [h2], fun r hr => ?_⟩
        rcases List.mem_cons.1 hr with rfl | hr
        · exact h5
        · exact h3 r hr
      | _ => exact hb.elim
theorem cells_of : ∀ {rows : List (List S)}, (∀ x ∈ rows, All2 wfS cellKs x) → ∃ l : List (Int × Int), rows.flatten = encC l ∧ l.length = rows.length ∧ ∀ r ∈ l, (-128 ≤ r.1 ∧ r.1 ≤ 127) ∧ -128 ≤ r.2 ∧ r.2 ≤ 127
  | [], _ => ⟨[], rfl, rfl, fun r hr => by cases hr⟩
  | x :: rows, h => by
    obtain ⟨l, h1, h2, h3⟩ := cells_of (rows := rows) (fun r hr => h r (List.mem_cons_of_mem _ hr))
    obtain ⟨a, b, rfl, hb⟩ := cell_of (h x (List.mem_cons_self ..))
    refine ⟨(a, b) :: l, by rw [List.flatten_cons, h1, encC]; rfl, by simp [h2], fun r hr => ?_⟩
    rcases List.mem_cons.1 hr with rfl | hr
    · exact ⟨⟨hb.1, hb.2.1⟩, hb.2.2⟩
    · exact h3 r hr
end Go.DM

/- Arguments as they come: texts of bytes. -/
set_option linter.unusedSimpArgs false
set_option linter.unusedVariables false
namespace Go.DM
set_option linter.unusedSectionVars false
variable [Tok]
open Go.ChangeShapes Go.WideShapes Go.ChangeAt Go.RowKit
section
variable {H : Type} {enc' : TypeId × Value → H} {P : Program} {w : World} {base : Nat} {sp : Nat → Bool} {held : Bool}
theorem bytes_of : ∀ {rows : List (List S)}, (∀ x ∈ rows, All2 wfS [.int .u8] x) → ∃ l : List UInt8, rows.flatten = u8s l ∧ l.length = rows.length
  | [], _ => ⟨[], rfl, rfl⟩
  | x :: rows, h => by
    obtain ⟨l, h1, h2⟩ := bytes_of (rows := rows) (fun r hr => h r (List.mem_cons_of_mem _ hr))
    have hx := h x (List.mem_cons_self ..)
    have hl : x.length = 1 := by rw [← hx.1]; rfl
    match x, hl with
    | [a], _ =>
      have ha := hx.2 0 (.int .u8) a rfl rfl
      cases a with
      | int k n =>
        obtain ⟨rfl, hn⟩ := ha
        have hb : 0 ≤ n ∧ n ≤ 255 := by simpa [Lit.wf, IntKind.min, IntKind.max, IntKind.signed, IntKind.bits] using hn
        refine ⟨UInt8.ofNat n.toNat :: l, ?_, by simp [h2]⟩
        rw [List.flatten_cons, h1]
        simp [u8s]
        omega
      | _ => exact ha.elim
theorem encs_u8s (l : List UInt8) : encs (u8s l) = l.map fun x => Value.int .u8 (x.toNat : Nat) := by
  simp [encs, u8s, DM.enc]
theorem open_bytes {t e : TypeId} {v : Value} {d : DataW H} {ps : List MemPlace} {r : Reach} {b0 : Nat} (ht : P.underlying t = some (.slice e)) (hk : ksOf P 20 e = some [.int .u8]) (hc : P.cellsOf e = 1)
    (hv : Value.okWide P w r b0 t v) (h : DataW.Trod enc' P w base sp held t v d ps) :
    ∃ (ad : Option Addr) (l : List UInt8) (cap : Nat), v = .slice ad l.length cap ∧ l.length ≤ maxLen ∧ (l ≠ [] → ∃ b o, ad = some ⟨b, o, none⟩ ∧ b < w.heap.size ∧ w.rangeAt b o (l.map fun x => Value.int .u8 (x.toNat : Nat))) := by
  obtain ⟨rows, h1, h2, h3⟩ := open_rows (ρ := id) ht hk hc (by decide) hv h
  obtain ⟨l, h4, h5⟩ := bytes_of h1
  rw [h4, ← h5] at h3
  rw [← h5] at h2
  generalize hn : l.length = n at h3
  generalize hcs : u8s l = cs at h3
  cases h3 with
  | sl0 _ _ a cap _ =>
    refine ⟨a, l, cap, by rw [hn], by omega, fun hne => ?_⟩
    exact absurd (List.eq_nil_of_length_eq_zero hn) hne
  | sl _ _ _ b off cap hI hcap hl hr =>
    refine ⟨_, l, cap, by rw [hn], by omega, fun _ => ⟨b, off, rfl, hI, ?_⟩⟩
    rw [← encs_u8s, hcs]; exact hr
end
/-- Two texts of bytes. -/
abbrev tok2 (a0 a1 : Option Addr) (c0 c1 : Nat) (d0 d1 : List UInt8) : Tok :=
  ⟨fun i => match i with | 0 => a0 | _ => a1, fun i => match i with | 0 => c0 | _ => c1, fun i => match i with | 0 => d0 | 1 => d1 | _ => []⟩
/-- More is known to stay. -/
def Kn.up (κ : Kn) (n : Nat) (h : κ.n0 ≤ n) : Kn := ⟨κ.K, n, fun w w' hk hs hb => κ.keep w w' hk hs fun b hb' => hb b (Nat.lt_of_lt_of_le hb' h)⟩
theorem Table.up {P : Program} {ρ : Nat → Nat} {κ : Kn} {Γ : Nat → Option Fn} {n : Nat} (hn : κ.n0 ≤ n) (h : Table P ρ κ Γ) : Table P ρ (κ.up n hn) Γ := fun f fn hf =>
  ⟨(h f fn hf).1, fun o ho as r hr w vs rs ha hk hsz hM => (h f fn hf).2 o ho as r hr w vs rs ha hk (Nat.le_trans hn hsz) fun m hm => Nat.le_trans hn (hM m hm)⟩
end Go.DM

/- slices.Index over cells. -/
set_option linter.unusedSimpArgs false
set_option linter.unusedVariables false
namespace Go.DM
set_option linter.unusedSectionVars false
variable [Tok]
open Go.IntWalk

theorem index_gives (l : List Cel) (hl : l.length ≤ 1000) (x y : Int) : Gives G 27 [asl l, ac x y] (ri .i64 (idxOf (fun c => x = c.1 ∧ y = c.2) l 0)) := by
  refine Gives.by rfl rfl (W.seq ?_)
  repeat' first | ((with_reducible apply WR.mv); exact rfl; exact rfl) | ((with_reducible apply WR.nil)) | (with_reducible refine andThen_n ?_) | (with_reducible refine W.seq ?_) | (with_reducible refine W.region ?_) | (with_reducible refine W.block ?_) | ((with_reducible apply WR.bo); exact rfl; exact rfl; (first | exact rfl)) | ((with_reducible apply WR.le); exact rfl; exact rfl)
  refine W.loopI (fun n σ => ∃ i : Int, n = (l.length - i).toNat ∧ 0 ≤ i ∧ i ≤ l.length ∧ idxOf (fun c => x = c.1 ∧ y = c.2) l 0 = idxOf (fun c => x = c.1 ∧ y = c.2) (l.drop i.toNat) i ∧ σ.env 8 = .a (.d (.s (.int .i64 i))) ∧ σ.env 7 = .a (.d (.s (.int .i64 (l.length : Nat)))) ∧ σ.env 0 = .a (.d (.sl l.length 2 (encC l))) ∧ σ.env 3 = .a (.ptr 3 0) ∧ σ.objs 3 = some (.flat false [.int .i8 x, .int .i8 y]))
    ?_ _ _ ⟨0, rfl, by omega, by omega, rfl, rfl, rfl, rfl, rfl, rfl⟩
  rintro n σ ⟨i, rfl, i0, i1, hi, e8, e7, e0, e3, o3⟩
  rw [← set_self e8, ← set_self e7, ← set_self e0, ← set_self e3, ← put_self o3]
  repeat' first | ((with_reducible apply WR.mv); exact rfl; exact rfl) | ((with_reducible apply WR.nil)) | (with_reducible refine andThen_n ?_) | (with_reducible refine andThen_x ?_) | (with_reducible refine inB_x ?_) | (with_reducible refine W.seq ?_) | (with_reducible refine W.region ?_) | (with_reducible refine W.skip ?_) | (with_reducible refine W.ret ?_) | (with_reducible refine W.exit ?_) | (with_reducible refine W.block ?_) | ((with_reducible apply W.condT); exact rfl) | ((with_reducible apply W.condF); exact rfl) | ((with_reducible apply Done.r); exact rfl) | (with_reducible refine W.draw ?_) | (intro hb; try (exfalso; omega)) | ((with_reducible apply WH.mv); exact rfl; exact rfl; exact rfl) | ((with_reducible apply WH.lx); exact rfl; exact rfl; exact rfl) | ((with_reducible apply WR.lss); exact rfl; exact rfl; exact rfl)
  · obtain ⟨c, hc⟩ := get_of_lt i0 (by assumption)
    (with_reducible apply WH.id); exact rfl; exact rfl; exact rfl; exact ⟨i0, by assumption⟩; exact Nat.le_of_eq (encC_length l).symm; exact rfl
    (with_reducible apply WH.ldd); exact rfl; exact rfl; exact encC_load l _ c hc; exact rfl
    repeat' first | ((with_reducible apply WR.mv); exact rfl; exact rfl) | ((with_reducible apply WR.nil)) | (with_reducible refine andThen_n ?_) | (with_reducible refine andThen_r ?_) | (with_reducible refine inB_n ?_) | (with_reducible refine inB_r ?_) | (with_reducible refine W.seq ?_) | (with_reducible refine W.region ?_) | (with_reducible refine W.skip ?_) | (with_reducible refine W.ret ?_) | ((with_reducible apply W.condT); exact rfl) | ((with_reducible apply W.condF); exact rfl) | ((with_reducible apply Done.r); exact rfl) | ((with_reducible apply WH.nil)) | (intro hb; try (exfalso; omega)) | ((with_reducible apply WR.ad); exact rfl; exact rfl; exact rfl; (first | exact i64_in _ (by omega))) | ((with_reducible apply WH.ec); exact rfl; exact rfl; exact rfl)
    all_goals first
      | (rw [hi, idxOf_step _ i0 hc, if_pos (by assumption)]; rfl)
      | exact ⟨_, by omega, i + 1, rfl, by omega, by omega, by rw [hi, idxOf_step _ i0 hc, if_neg (by assumption)], rfl, rfl, rfl, rfl, rfl⟩
  · have : l.drop i.toNat = [] := List.drop_eq_nil_of_le (by omega)
    rw [hi, this]; rfl
end Go.DM
