/- More rules: two cells that are compared. -/
import Derived.Test.YtaocbbdkiemhaaaK357Rule
import Derived.Test.YtaocbbdkiemhaaaK357Given
import Derived.Test.YtaocbbdkiemhaaaK357Y
import Derived.Deep.Slices
set_option linter.unusedSimpArgs false
set_option linter.unusedVariables false
namespace Go.DM
set_option linter.unusedSectionVars false
variable [Tok]
theorem noPar_mixT {σ σ0 : St} {o : Nat} {L LO : List Nat} (hn : has LO o = true) (h : noPar σ0 [o] = true) : noPar (mix L LO σ0 σ) [o] = true := by
  rw [noPar_one] at h ⊢
  intro cs' e
  simp only [mix, hn, cond_true] at e
  exact h _ e
section
variable {Γ : Nat → Option Fn} {dsts : Nat → Option Nat} {ops : List Oper} {Q : St → Prop} {σ : St} {d : Option Nat} {g : Option (Nat × Bool)} {l1 l2 l3 l4 : List Nat}
theorem en_q {σ : St} {a b : Opd} {x y x' y' : Int} (ha : ev σ.env a = .a (.d (.agg [.int .i8 x, .int .i8 y]))) (hb : ev σ.env b = .a (.d (.agg [.int .i8 x', .int .i8 y']))) : quiet σ (.eqa true true [.int .i8, .int .i8] a b) = some (.a (.d (.s (.bool (decide (¬ (x = x' ∧ y = y'))))))) := by
  have e : ∀ p q : Int, (p == q) = decide (p = q) := fun p q => rfl
  by_cases h1 : x = x' <;> by_cases h2 : y = y' <;> simp [quiet, ha, hb, cellsA, hasKs, hasK, eqSs, eqS, sv, e, h1, h2]
theorem WR.en {a b : Opd} {x y x' y' : Int} (hw : wanted dsts σ.env g = some true) (ha : ev σ.env a = .a (.d (.agg [.int .i8 x, .int .i8 y]))) (hb : ev σ.env b = .a (.d (.agg [.int .i8 x', .int .i8 y'])))
    (k1 : ¬ (x = x' ∧ y = y') → WR Γ dsts ops Q (set d (.a (.d (.s (.bool true)))) σ)) (k2 : x = x' ∧ y = y' → WR Γ dsts ops Q (set d (.a (.d (.s (.bool false)))) σ)) : WR Γ dsts (⟨d, .eqa true true [.int .i8, .int .i8] a b, g, l1, l2, l3, l4⟩ :: ops) Q σ := by
  by_cases h : x = x' ∧ y = y'
  · exact WR.q hw (by rw [en_q ha hb]; simp only [h, and_self, not_true, decide_false]) (k2 h)
  · exact WR.q hw (by rw [en_q ha hb]; simp only [h, not_false_eq_true, decide_true]) (k1 h)
theorem WH.en {a b : Opd} {x y x' y' : Int} (hw : wanted dsts (kill l1 (only l3 σ)).env g = some true) (ha : ev (kill l1 (only l3 σ)).env a = .a (.d (.agg [.int .i8 x, .int .i8 y]))) (hb : ev (kill l1 (only l3 σ)).env b = .a (.d (.agg [.int .i8 x', .int .i8 y'])))
    (k1 : ¬ (x = x' ∧ y = y') → WH Γ dsts ops Q (set d (.a (.d (.s (.bool true)))) σ)) (k2 : x = x' ∧ y = y' → WH Γ dsts ops Q (set d (.a (.d (.s (.bool false)))) σ)) : WH Γ dsts (⟨d, .eqa true true [.int .i8, .int .i8] a b, g, l1, l2, l3, l4⟩ :: ops) Q σ := by
  by_cases h : x = x' ∧ y = y'
  · exact WH.q hw (by rw [show veil _ σ = kill l1 (only l3 σ) from rfl, en_q ha hb]; simp only [h, and_self, not_true, decide_false]) rfl (k2 h)
  · exact WH.q hw (by rw [show veil _ σ = kill l1 (only l3 σ) from rfl, en_q ha hb]; simp only [h, not_false_eq_true, decide_true]) rfl (k1 h)
/-- Two bools are compared. -/
theorem eb_q {σ : St} {ng : Bool} {a b : Opd} {x y : Bool} (ha : ev σ.env a = .a (.d (.s (.bool x)))) (hb : ev σ.env b = .a (.d (.s (.bool y)))) : quiet σ (.eqa ng false [.bool] a b) = some (.a (.d (.s (.bool ((x == y) != ng))))) := by
  cases ng <;> cases x <;> cases y <;> simp [quiet, ha, hb, cellsA, hasKs, hasK, eqSs, eqS, sv]
theorem WR.ebb {ng : Bool} {a b : Opd} {x y : Bool} (hw : wanted dsts σ.env g = some true) (ha : ev σ.env a = .a (.d (.s (.bool x)))) (hb : ev σ.env b = .a (.d (.s (.bool y))))
    (K : WR Γ dsts ops Q (set d (.a (.d (.s (.bool ((x == y) != ng))))) σ)) : WR Γ dsts (⟨d, .eqa ng false [.bool] a b, g, l1, l2, l3, l4⟩ :: ops) Q σ := WR.q hw (eb_q ha hb) K
theorem WH.ebb {ng : Bool} {a b : Opd} {x y : Bool} (hw : wanted dsts (kill l1 (only l3 σ)).env g = some true) (ha : ev (kill l1 (only l3 σ)).env a = .a (.d (.s (.bool x)))) (hb : ev (kill l1 (only l3 σ)).env b = .a (.d (.s (.bool y))))
    (K : WH Γ dsts ops Q (set d (.a (.d (.s (.bool ((x == y) != ng))))) σ)) : WH Γ dsts (⟨d, .eqa ng false [.bool] a b, g, l1, l2, l3, l4⟩ :: ops) Q σ := WH.q hw (eb_q ha hb) rfl K
end
end Go.DM

/- Rules for texts: strings, rows of strings, bytes. -/
set_option linter.unusedSimpArgs false
set_option linter.unusedVariables false
namespace Go.DM
set_option linter.unusedSectionVars false
variable [Tok]
open Go.IntWalk
section
variable {dsts : Nat → Option Nat} {ops : List Oper} {Q : St → Prop} {σ : St} {d : Option Nat} {gd : Option (Nat × Bool)} {l1 l2 l3 l4 : List Nat} {Γ : Nat → Option Fn}
end

section
variable {dsts : Nat → Option Nat} {ops : List Oper} {Q : St → Prop} {σ : St} {d : Option Nat} {gd : Option (Nat × Bool)} {l1 l2 l3 l4 : List Nat} {Γ : Nat → Option Fn}
theorem quiet_rem {a b : Opd} {k : IntKind} {n m : Int} (ha : ev σ.env a = .a (.d (.s (.int k n)))) (hb : ev σ.env b = .a (.d (.s (.int k m)))) (hm : m ≠ 0) : quiet σ (.bin .rem a b) = some (.a (.d (.s (.int k (n.tmod m))))) := by
  simp only [quiet, ha, hb, bin, isShift, intBin, if_true]
  rw [if_neg hm]; rfl
theorem WR.rem {a b : Opd} {k : IntKind} {n m : Int} (hw : wanted dsts σ.env gd = some true) (ha : ev σ.env a = .a (.d (.s (.int k n)))) (hb : ev σ.env b = .a (.d (.s (.int k m)))) (hm : m ≠ 0)
    (K : WR Γ dsts ops Q (set d (.a (.d (.s (.int k (n.tmod m))))) σ)) : WR Γ dsts (⟨d, .bin .rem a b, gd, l1, l2, l3, l4⟩ :: ops) Q σ := WR.q hw (quiet_rem ha hb hm) K
theorem WH.rem {a b : Opd} {k : IntKind} {n m : Int} (hw : wanted dsts (kill l1 (only l3 σ)).env gd = some true) (ha : ev (kill l1 (only l3 σ)).env a = .a (.d (.s (.int k n)))) (hb : ev (kill l1 (only l3 σ)).env b = .a (.d (.s (.int k m)))) (hm : m ≠ 0)
    (K : WH Γ dsts ops Q (set d (.a (.d (.s (.int k (n.tmod m))))) σ)) : WH Γ dsts (⟨d, .bin .rem a b, gd, l1, l2, l3, l4⟩ :: ops) Q σ := WH.q hw (quiet_rem ha hb hm) rfl K
theorem quiet_quo {a b : Opd} {k : IntKind} {n m : Int} (ha : ev σ.env a = .a (.d (.s (.int k n)))) (hb : ev σ.env b = .a (.d (.s (.int k m)))) (hm : m ≠ 0) (hn : k.wrap (n.tdiv m) = n.tdiv m) : quiet σ (.bin .quo a b) = some (.a (.d (.s (.int k (n.tdiv m))))) := by
  simp only [quiet, ha, hb, bin, isShift, intBin, if_true]
  rw [if_neg hm, hn]; rfl
theorem WR.quo {a b : Opd} {k : IntKind} {n m : Int} (hw : wanted dsts σ.env gd = some true) (ha : ev σ.env a = .a (.d (.s (.int k n)))) (hb : ev σ.env b = .a (.d (.s (.int k m)))) (hm : m ≠ 0) (hn : k.wrap (n.tdiv m) = n.tdiv m)
    (K : WR Γ dsts ops Q (set d (.a (.d (.s (.int k (n.tdiv m))))) σ)) : WR Γ dsts (⟨d, .bin .quo a b, gd, l1, l2, l3, l4⟩ :: ops) Q σ := WR.q hw (quiet_quo ha hb hm hn) K
theorem WH.quo {a b : Opd} {k : IntKind} {n m : Int} (hw : wanted dsts (kill l1 (only l3 σ)).env gd = some true) (ha : ev (kill l1 (only l3 σ)).env a = .a (.d (.s (.int k n)))) (hb : ev (kill l1 (only l3 σ)).env b = .a (.d (.s (.int k m)))) (hm : m ≠ 0) (hn : k.wrap (n.tdiv m) = n.tdiv m)
    (K : WH Γ dsts ops Q (set d (.a (.d (.s (.int k (n.tdiv m))))) σ)) : WH Γ dsts (⟨d, .bin .quo a b, gd, l1, l2, l3, l4⟩ :: ops) Q σ := WH.q hw (quiet_quo ha hb hm hn) rfl K
/-! A part of a string. -/
/-! Strings are compared. -/
/-! Bytes. -/
theorem bytesOf_encI : ∀ l : List Int, bytesOf (encI .u8 l) = some (l.map fun n => UInt8.ofNat n.toNat)
  | [] => rfl
  | n :: r => by simp only [encI, bytesOf, bytesOf_encI r, Option.map_some, List.map_cons]
theorem quiet_ob {a : Opd} {p : Nat} {b : Bool} {l : List Int} (ha : ev σ.env a = .a (.sl p 0 l.length 1)) (ho : σ.objs p = some (.flat b (encI .u8 l))) : quiet σ (.conv .ofBytes a) = some (.a (.d (.s (.str (l.map fun n => UInt8.ofNat n.toNat))))) := by
  have hl := encI_length .u8 l
  simp only [quiet, ha, elems, ho]
  rw [if_pos ⟨trivial, by omega⟩, Option.bind_some]
  simp only [List.drop_zero]
  rw [List.take_of_length_le (by omega), bytesOf_encI]; rfl
theorem WR.ob {a : Opd} {p : Nat} {b : Bool} {l : List Int} (hw : wanted dsts σ.env gd = some true) (ha : ev σ.env a = .a (.sl p 0 l.length 1)) (ho : σ.objs p = some (.flat b (encI .u8 l)))
    (K : WR Γ dsts ops Q (set d (.a (.d (.s (.str (l.map fun n => UInt8.ofNat n.toNat))))) σ)) : WR Γ dsts (⟨d, .conv .ofBytes a, gd, l1, l2, l3, l4⟩ :: ops) Q σ := WR.q hw (quiet_ob ha ho) K
theorem WH.ob {a : Opd} {p : Nat} {b : Bool} {l : List Int} (hw : wanted dsts (kill l1 (only l3 σ)).env gd = some true) (ha : ev (kill l1 (only l3 σ)).env a = .a (.sl p 0 l.length 1)) (ho : (kill l1 (only l3 σ)).objs p = some (.flat b (encI .u8 l)))
    (K : WH Γ dsts ops Q (set d (.a (.d (.s (.str (l.map fun n => UInt8.ofNat n.toNat))))) σ)) : WH Γ dsts (⟨d, .conv .ofBytes a, gd, l1, l2, l3, l4⟩ :: ops) Q σ := WH.q hw (quiet_ob ha ho) rfl K
end

/-! Rows of strings. -/
section
variable {dsts : Nat → Option Nat} {ops : List Oper} {Q : St → Prop} {σ : St} {d : Option Nat} {g : Option (Nat × Bool)} {l1 l2 l3 l4 : List Nat} {Γ : Nat → Option Fn}
end
end Go.DM

/- Rows of rounds. -/
set_option linter.unusedSimpArgs false
set_option linter.unusedVariables false
namespace Go.DM
set_option linter.unusedSectionVars false
variable [Tok]
open Go.IntWalk
section
variable {dsts : Nat → Option Nat} {ops : List Oper} {Q : St → Prop} {σ : St} {d : Option Nat} {g : Option (Nat × Bool)} {l1 l2 l3 l4 : List Nat} {Γ : Nat → Option Fn}
end
end Go.DM

/- Arguments as they come: slices of plain rows. -/
set_option linter.unusedSimpArgs false
set_option linter.unusedVariables false
namespace Go.DM
set_option linter.unusedSectionVars false
variable [Tok]
open Go.ChangeShapes Go.WideShapes Go.ChangeAt Go.RowKit
section
variable {H : Type} {enc' : TypeId × Value → H} {P : Program} {w : World} {base : Nat} {sp : Nat → Bool} {held : Bool}
theorem mapM_get {α β : Type} {f : α → Option β} : ∀ {l : List α} {r : List β}, l.mapM f = some r → l.length = r.length ∧ ∀ (i : Nat) (a : α), l[i]? = some a → ∃ b, r[i]? = some b ∧ f a = some b
  | [], r, h => by
    simp at h; subst h
    exact ⟨rfl, fun i a ha => by simp at ha⟩
  | x :: l, r, h => by
    simp only [List.mapM_cons, Option.bind_eq_bind, Option.bind_eq_some_iff, Option.pure_def, Option.some.injEq] at h
    obtain ⟨b, hb, r', hr', rfl⟩ := h
    obtain ⟨h1, h2⟩ := mapM_get hr'
    refine ⟨by simp [h1], fun i a ha => ?_⟩
    cases i with
    | zero => simp at ha; subst ha; exact ⟨b, rfl, hb⟩
    | succ i => exact h2 i a (by simpa using ha)
theorem cells?_get {b : Nat} {a : Addr} {n : Nat} {cs : List Value} (h : w.cells? b a n = some cs) : cs.length = n ∧ ∀ i v, cs[i]? = some v → w.cell? (a.add i) = some v := by
  unfold World.cells? at h
  split at h
  · obtain ⟨h1, h2⟩ := mapM_get h
    rw [List.length_range] at h1
    refine ⟨h1.symm, fun i v hv => ?_⟩
    have hi : i < n := by rw [h1]; exact (List.getElem?_eq_some_iff.1 hv).1
    obtain ⟨u, e1, e2⟩ := h2 i i (by simp [hi])
    rw [hv] at e1; cases e1
    exact e2
  · cases h
theorem flatten_rows {n : Nat} : ∀ {rows : List (List S)}, (∀ r ∈ rows, r.length = n) → rows.flatten.length = rows.length * n ∧ ∀ (i k : Nat) (r : List S), rows[i]? = some r → k < n → rows.flatten[i * n + k]? = r[k]?
  | [], _ => ⟨by simp, fun i k r h => by simp at h⟩
  | r :: rows, h => by
    obtain ⟨h1, h2⟩ := flatten_rows (rows := rows) (n := n) (fun r hr => h r (List.mem_cons_of_mem _ hr))
    have hr := h r (List.mem_cons_self ..)
    refine ⟨by simp only [List.flatten_cons, List.length_append, List.length_cons, h1, hr, Nat.succ_mul]; omega, fun i k r' hi hk => ?_⟩
    cases i with
    | zero =>
      simp at hi; subst hi
      rw [List.flatten_cons, Nat.zero_mul, Nat.zero_add, List.getElem?_append_left (by omega)]
    | succ i =>
      rw [List.flatten_cons, List.getElem?_append_right (by rw [hr, Nat.succ_mul]; omega), hr, show (i + 1) * n + k - n = i * n + k by rw [Nat.succ_mul]; omega]
      exact h2 i k r' (by simpa using hi) hk
/-- A slice of rows of plain cells. -/
theorem open_rows {ρ : Nat → Nat} {t e : TypeId} {ks : List SK} {v : Value} {d : DataW H} {ps : List MemPlace} {r : Reach} {b0 : Nat} (ht : P.underlying t = some (.slice e)) (hk : ksOf P 20 e = some ks) (hc : P.cellsOf e = ks.length) (h0 : ks.length ≠ 0)
    (hv : Value.okWide P w r b0 t v) (h : DataW.Trod enc' P w base sp held t v d ps) :
    ∃ rows : List (List S), (∀ x ∈ rows, All2 wfS ks x) ∧ rows.length ≤ maxLen ∧ DRel ρ (fun b => b < w.heap.size) w (.sl rows.length ks.length rows.flatten) v := by
  obtain ⟨fuel, hf⟩ := h
  have hv1 : ∀ u : Value, v.cells.toList = [u] → u.cells = #[u] → v = u := by
    intro u hu hu1
    cases v <;> first
      | (simpa [Value.cells] using hu)
      | (exfalso; unfold Value.okWide at hv; simp [ht, Cell.okWide, Cell.ok] at hv)
  rcases Go.Deep.open_slice ht hf with ⟨h1, _⟩ | ⟨a, len, cap, m, n, D, Pl, h1, hb, hlc, hcm, hm, heq, hel⟩
  · have := hv1 _ h1 rfl
    subst this
    exact ⟨[], fun x hx => (by cases hx), Nat.zero_le _, DRel.sl0 _ _ _ _ rfl⟩
  · have := hv1 _ h1 rfl
    subst this
    have hml : len ≤ m := by rw [hm]; split <;> omega
    -- the rows
    have row : ∀ i, i < len → ∃ ss, All2 wfS ks ss ∧ ∀ k x, ss[k]? = some x → w.cell? ((a.add (i * ks.length)).add k) = some (DM.enc x) := by
      intro i hi
      obtain ⟨cs', e1, e2⟩ := hel i (by omega)
      obtain ⟨ss, e3, e4⟩ := ksOf_open 20 e ks hk _ _ _ e2
      obtain ⟨_, e5⟩ := cells?_get e1
      refine ⟨ss, e4, fun k x hx => ?_⟩
      rw [hc] at e5
      exact e5 k _ (by rw [e3, encs, List.getElem?_map, hx]; rfl)
    obtain ⟨rows, hl, hrows⟩ : ∃ rows : List (List S), rows.length = len ∧ ∀ i ss, rows[i]? = some ss → All2 wfS ks ss ∧ ∀ k x, ss[k]? = some x → w.cell? ((a.add (i * ks.length)).add k) = some (DM.enc x) := by
      clear h1 hcm hm hml hlc hv1 hel hf hv heq
      induction len with
      | zero => exact ⟨[], rfl, fun i ss hi => by simp at hi⟩
      | succ len ih =>
        obtain ⟨rows, h2, h3⟩ := ih (fun i hi => row i (by omega))
        obtain ⟨ss, h4⟩ := row len (by omega)
        refine ⟨rows ++ [ss], by simp [h2], fun i ss' hi => ?_⟩
        by_cases hil : i < rows.length
        · rw [List.getElem?_append_left hil] at hi; exact h3 i ss' hi
        · rw [List.getElem?_append_right (by omega)] at hi
          have : i - rows.length = 0 := by
            have := (List.getElem?_eq_some_iff.1 hi).1; simp at this; omega
          rw [this] at hi
          simp at hi; subst hi
          rw [show i = len by omega]; exact h4
    have hall : ∀ x ∈ rows, All2 wfS ks x := fun x hx => by
      obtain ⟨i, hi⟩ := List.getElem?_of_mem hx
      exact (hrows i x hi).1
    obtain ⟨f1, f2⟩ := flatten_rows (rows := rows) (n := ks.length) (fun r hr => (hall r hr).1.symm)
    refine ⟨rows, hall, by omega, ?_⟩
    by_cases hz : len = 0
    · subst hz
      have : rows = [] := List.eq_nil_of_length_eq_zero hl
      subst this
      exact DRel.sl0 _ _ _ _ rfl
    · -- where it lies
      have hcell : ∀ j v, (encs rows.flatten)[j]? = some v → w.cell? (a.add j) = some v := by
        intro j v hj
        have hjl : j < rows.length * ks.length := by
          have := (List.getElem?_eq_some_iff.1 hj).1
          rwa [encs, List.length_map, f1] at this
        have hi : j / ks.length < rows.length := Nat.div_lt_of_lt_mul (by rw [Nat.mul_comm]; exact hjl)
        have hk2 : j % ks.length < ks.length := Nat.mod_lt _ (by omega)
        have hdec : j / ks.length * ks.length + j % ks.length = j := by rw [Nat.mul_comm]; exact Nat.div_add_mod ..
        have hg := f2 _ (j % ks.length) _ (List.getElem?_eq_getElem hi) hk2
        rw [hdec] at hg
        rw [encs, List.getElem?_map, hg, Option.map_eq_some_iff] at hj
        obtain ⟨x, hx, rfl⟩ := hj
        have := (hrows _ _ (List.getElem?_eq_getElem hi)).2 _ x hx
        rwa [Go.Deep.add_add, hdec] at this
      obtain ⟨v0, hv0⟩ : ∃ v0, (encs rows.flatten)[0]? = some v0 := by
        have : 0 < (encs rows.flatten).length := by
          rw [encs, List.length_map, f1]
          exact Nat.mul_pos (by omega) (by omega)
        exact ⟨_, List.getElem?_eq_getElem this⟩
      have h00 := hcell 0 v0 hv0
      obtain ⟨ab, ao, as⟩ := a
      obtain rfl : as = none := by
        unfold World.cell? at h00
        split at h00
        · split at h00
          · cases h00
          · rename_i hs
            cases as with
            | none => rfl
            | some x => simp [Addr.add] at hs
        · cases h00
      have hlt : ab < w.heap.size := by
        unfold World.cell? at h00
        split at h00
        · rename_i hh
          have := (Array.getElem?_eq_some_iff.1 hh).1
          simpa [Addr.add] using this
        · cases h00
      rw [← hl]
      exact DRel.sl _ _ _ ab ao cap hlt (by omega) f1 fun j v hj => by
        have := hcell j v hj
        rwa [Addr.add_mid] at this
end
end Go.DM
