/- Steps from a cell: the program's side. -/
import Derived.Test.YteghgkdakhelfaaK191Bfs
import Derived.Test.YteghgkdakhelfaaK191All
import Derived.Test.YteghgkdakhelfaaK191Rule
set_option linter.unusedSimpArgs false
set_option linter.unusedVariables false
set_option maxHeartbeats 4000000
namespace Go.DM
open Go.IntWalk
variable {w h : Int} {g : Nat → Int} {cs : List S}

/-- Numbers of cells, behind each other. -/
def outI (w : Int) (d : Nat → Int) : Nat → Int := fun i => d (10 * (i / w.toNat) + i % w.toNat)
theorem mul_b (hs : 0 ≤ w ∧ w ≤ 10 ∧ 0 ≤ h ∧ h ≤ 10) : 0 ≤ w * h ∧ w * h ≤ 100 := by
  obtain ⟨W, rfl⟩ : ∃ W : Nat, w = W := ⟨w.toNat, by omega⟩
  obtain ⟨H, rfl⟩ : ∃ H : Nat, h = H := ⟨h.toNat, by omega⟩
  have h3 : W * H ≤ 10 * 10 := Nat.mul_le_mul (by omega) (by omega)
  have e : ((W * H : Nat) : Int) = (W : Int) * H := by simp
  omega
theorem idx_b (hs : 0 ≤ w ∧ w ≤ 10 ∧ 0 ≤ h ∧ h ≤ 10) {x y : Int} (hh : Has w h x y) : 0 ≤ y * w + x ∧ y * w + x < w * h := by
  simp only [Has] at hh
  obtain ⟨W, rfl⟩ : ∃ W : Nat, w = W := ⟨w.toNat, by omega⟩
  obtain ⟨H, rfl⟩ : ∃ H : Nat, h = H := ⟨h.toNat, by omega⟩
  obtain ⟨X, rfl⟩ : ∃ X : Nat, x = X := ⟨x.toNat, by omega⟩
  obtain ⟨Y, rfl⟩ : ∃ Y : Nat, y = Y := ⟨y.toNat, by omega⟩
  have h3 : (Y + 1) * W ≤ H * W := Nat.mul_le_mul_right W (by omega)
  have e1 : ((Y * W : Nat) : Int) = (Y : Int) * W := by simp
  have e2 : ((H * W : Nat) : Int) = (W : Int) * H := by simp [Int.mul_comm]
  rw [Nat.succ_mul] at h3
  omega
theorem div_idx {W x y : Nat} (hx : x < W) : (y * W + x) / W = y ∧ (y * W + x) % W = x := by
  refine ⟨?_, ?_⟩
  · rw [Nat.add_comm, Nat.add_mul_div_right _ _ (by omega), Nat.div_eq_of_lt hx, Nat.zero_add]
  · rw [Nat.add_comm, Nat.add_mul_mod_self_right, Nat.mod_eq_of_lt hx]
theorem idx_nat {x y : Int} (hh : Has w h x y) : (y * w + x).toNat = y.toNat * w.toNat + x.toNat := by
  simp only [Has] at hh
  obtain ⟨W, rfl⟩ : ∃ W : Nat, w = W := ⟨w.toNat, by omega⟩
  obtain ⟨X, rfl⟩ : ∃ X : Nat, x = X := ⟨x.toNat, by omega⟩
  obtain ⟨Y, rfl⟩ : ∃ Y : Nat, y = Y := ⟨y.toNat, by omega⟩
  have e1 : ((Y * W : Nat) : Int) = (Y : Int) * W := by simp
  simp only [Int.toNat_natCast]
  omega
theorem outI_get {d : Nat → Int} {x y : Int} (hh : Has w h x y) : outI w d (y * w + x).toNat = d (10 * y.toNat + x.toNat) := by
  rw [idx_nat hh]
  have := div_idx (W := w.toNat) (x := x.toNat) (y := y.toNat) (by simp only [Has] at hh; omega)
  simp only [outI, this.1, this.2]
theorem outI_set {d : Nat → Int} {c : Cel} {v : Int} (hs : w ≤ 10) (hh : Has w h c.1 c.2) : gset (outI w d) (c.2 * w + c.1).toNat v = outI w (gset d (ix c) v) := by
  funext i
  rw [idx_nat hh]
  have hx : c.1.toNat < w.toNat := by simp only [Has] at hh; omega
  have hd := div_idx (y := c.2.toNat) hx
  have hm := Nat.mod_lt i (show 0 < w.toNat by omega)
  have hdm := Nat.div_add_mod i w.toNat
  simp only [gset, outI, ix]
  by_cases e : i = c.2.toNat * w.toNat + c.1.toNat
  · rw [if_pos e, if_pos (by rw [e, hd.1, hd.2])]
  · rw [if_neg e, if_neg]
    intro e2
    have h1 : i / w.toNat = c.2.toNat := by omega
    have h2 : i % w.toNat = c.1.toNat := by omega
    exact e (by rw [← hdm, h1, h2, Nat.mul_comm])
theorem mul_1 (hs : 1 ≤ w ∧ 1 ≤ h) : 1 ≤ w * h := by
  obtain ⟨W, rfl⟩ : ∃ W : Nat, w = W := ⟨w.toNat, by omega⟩
  obtain ⟨H, rfl⟩ : ∃ H : Nat, h = H := ⟨h.toNat, by omega⟩
  have h3 : 1 * 1 ≤ W * H := Nat.mul_le_mul (by omega) (by omega)
  have e : ((W * H : Nat) : Int) = (W : Int) * H := by simp
  omega
/-- To which cells steps may go. -/
def okP (w h : Int) (P : Cel → Prop) (c : Cel) : Prop := Has w h c.1 c.2 ∧ P c
instance (w h : Int) (P : Cel → Prop) [DecidablePred P] : DecidablePred (okP w h P) := fun c => inferInstanceAs (Decidable (_ ∧ _))

theorem drop_gC {l : List Cel} {k : Nat} (hk : k < l.length) : l.drop k = gC l k :: l.drop (k + 1) := by
  have h1 := gC_get hk
  obtain ⟨h2, h3⟩ := List.getElem?_eq_some_iff.1 h1
  rw [List.drop_eq_getElem_cons h2, h3]
end Go.DM

/- The reference's code of cells that have to be open. -/
set_option linter.unusedSimpArgs false
set_option linter.unusedVariables false
set_option maxHeartbeats 4000000
namespace Go.DM
open Go.IntWalk
variable {w h : Int} {g : Nat → Int} {cs : List S}
theorem all_snoc {p : Cel → Prop} {L : List Cel} {i : Nat} (hi : i < L.length) : (∀ c ∈ L.take (i + 1), p c) ↔ (∀ c ∈ L.take i, p c) ∧ p (gC L i) := by
  rw [List.take_add_one, gC_get hi]
  simp only [Option.toList_some, List.mem_append, List.mem_singleton]
  constructor
  · intro h; exact ⟨fun c hc => h c (.inl hc), h _ (.inr rfl)⟩
  · rintro ⟨h1, h2⟩ c (hc | rfl)
    · exact h1 c hc
    · exact h2
theorem bstep_t {b : Bool} {A A' p : Prop} (h1 : b = true ↔ A) (h2 : A' ↔ A ∧ p) (hb : b = true) (hp : p) : true = true ↔ A' := ⟨fun _ => h2.2 ⟨h1.1 hb, hp⟩, fun _ => rfl⟩
theorem bstep_f {b : Bool} {A A' p : Prop} (h1 : b = true ↔ A) (h2 : A' ↔ A ∧ p) (hn : b = false ∨ ¬ p) : false = true ↔ A' := ⟨fun h => (nomatch h), fun h => by
  have h3 := h2.1 h
  rcases hn with hn | hn
  · have := h1.2 h3.1; rw [hn] at this; exact this
  · exact absurd h3.2 hn⟩
abbrev InB (c : Cel) : Prop := -128 ≤ c.1 ∧ c.1 ≤ 127 ∧ -128 ≤ c.2 ∧ c.2 ≤ 127
end Go.DM

/- More rules: two cells that are compared. -/
set_option linter.unusedSimpArgs false
set_option linter.unusedVariables false
namespace Go.DM
theorem noPar_mixT {σ σ0 : St} {o : Nat} {L LO : List Nat} (hn : has LO o = true) (h : noPar σ0 [o] = true) : noPar (mix L LO σ0 σ) [o] = true := by
  rw [noPar_one] at h ⊢
  intro cs' e
  simp only [mix, hn, cond_true] at e
  exact h _ e
section
variable {Γ : Nat → Option Fn} {dsts : Nat → Option Nat} {ops : List Oper} {Q : St → Prop} {σ : St} {d : Option Nat} {g : Option (Nat × Bool)} {l1 l2 l3 l4 : List Nat}
theorem en_q {σ : St} {a b : Opd} {x y x' y' : Int} (ha : ev σ.env a = .a (.d (.agg [.int .i8 x, .int .i8 y]))) (hb : ev σ.env b = .a (.d (.agg [.int .i8 x', .int .i8 y']))) : quiet σ (.eqa true true [.int .i8, .int .i8] a b) = some (.a (.d (.s (.bool (decide (¬ (x = x' ∧ y = y'))))))) := by
  have e : ∀ p q : Int, (p == q) = decide (p = q) := fun p q => rfl
  by_cases h1 : x = x' <;> by_cases h2 : y = y' <;> simp [quiet, ha, hb, cellsA, hasKs, hasK, eqSs, eqS, sv, e, h1, h2]
theorem WR.en {a b : Opd} {x y x' y' : Int} (hw : wanted dsts σ.env g = some true) (ha : ev σ.env a = .a (.d (.agg [.int .i8 x, .int .i8 y]))) (hb : ev σ.env b = .a (.d (.agg [.int .i8 x', .int .i8 y'])))
    (k1 : ¬ (x = x' ∧ y = y') → WR Γ dsts ops Q (set d (.a (.d (.s (.bool true)))) σ)) (k2 : x = x' ∧ y = y' → WR Γ dsts ops Q (set d (.a (.d (.s (.bool false)))) σ)) : WR Γ dsts (⟨d, .eqa true true [.int .i8, .int .i8] a b, g, l1, l2, l3, l4⟩ :: ops) Q σ := by
  by_cases h : x = x' ∧ y = y'
  · exact WR.q hw (by rw [en_q ha hb]; simp only [h, and_self, not_true, decide_false]) (k2 h)
  · exact WR.q hw (by rw [en_q ha hb]; simp only [h, not_false_eq_true, decide_true]) (k1 h)
theorem WH.en {a b : Opd} {x y x' y' : Int} (hw : wanted dsts (kill l1 (only l3 σ)).env g = some true) (ha : ev (kill l1 (only l3 σ)).env a = .a (.d (.agg [.int .i8 x, .int .i8 y]))) (hb : ev (kill l1 (only l3 σ)).env b = .a (.d (.agg [.int .i8 x', .int .i8 y'])))
    (k1 : ¬ (x = x' ∧ y = y') → WH Γ dsts ops Q (set d (.a (.d (.s (.bool true)))) σ)) (k2 : x = x' ∧ y = y' → WH Γ dsts ops Q (set d (.a (.d (.s (.bool false)))) σ)) : WH Γ dsts (⟨d, .eqa true true [.int .i8, .int .i8] a b, g, l1, l2, l3, l4⟩ :: ops) Q σ := by
  by_cases h : x = x' ∧ y = y'
  · exact WH.q hw (by rw [show veil _ σ = kill l1 (only l3 σ) from rfl, en_q ha hb]; simp only [h, and_self, not_true, decide_false]) rfl (k2 h)
  · exact WH.q hw (by rw [show veil _ σ = kill l1 (only l3 σ) from rfl, en_q ha hb]; simp only [h, not_false_eq_true, decide_true]) rfl (k1 h)
/-- Two bools are compared. -/
theorem eb_q {σ : St} {ng : Bool} {a b : Opd} {x y : Bool} (ha : ev σ.env a = .a (.d (.s (.bool x)))) (hb : ev σ.env b = .a (.d (.s (.bool y)))) : quiet σ (.eqa ng false [.bool] a b) = some (.a (.d (.s (.bool ((x == y) != ng))))) := by
  cases ng <;> cases x <;> cases y <;> simp [quiet, ha, hb, cellsA, hasKs, hasK, eqSs, eqS, sv]
theorem WR.ebb {ng : Bool} {a b : Opd} {x y : Bool} (hw : wanted dsts σ.env g = some true) (ha : ev σ.env a = .a (.d (.s (.bool x)))) (hb : ev σ.env b = .a (.d (.s (.bool y))))
    (K : WR Γ dsts ops Q (set d (.a (.d (.s (.bool ((x == y) != ng))))) σ)) : WR Γ dsts (⟨d, .eqa ng false [.bool] a b, g, l1, l2, l3, l4⟩ :: ops) Q σ := WR.q hw (eb_q ha hb) K
theorem WH.ebb {ng : Bool} {a b : Opd} {x y : Bool} (hw : wanted dsts (kill l1 (only l3 σ)).env g = some true) (ha : ev (kill l1 (only l3 σ)).env a = .a (.d (.s (.bool x)))) (hb : ev (kill l1 (only l3 σ)).env b = .a (.d (.s (.bool y))))
    (K : WH Γ dsts ops Q (set d (.a (.d (.s (.bool ((x == y) != ng))))) σ)) : WH Γ dsts (⟨d, .eqa ng false [.bool] a b, g, l1, l2, l3, l4⟩ :: ops) Q σ := WH.q hw (eb_q ha hb) rfl K
end
end Go.DM
