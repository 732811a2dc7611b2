/- More rules: two cells that are compared. -/
import Derived.Test.YtppmmeciihmnjaaDoorK279Rule
set_option linter.unusedSimpArgs false
set_option linter.unusedVariables false
namespace Go.DM
theorem noPar_mixT {σ σ0 : St} {o : Nat} {L LO : List Nat} (hn : has LO o = true) (h : noPar σ0 [o] = true) : noPar (mix L LO σ0 σ) [o] = true := by
  rw [noPar_one] at h ⊢
  intro cs' e
  simp only [mix, hn, cond_true] at e
  exact h _ e
section
variable {Γ : Nat → Option Fn} {dsts : Nat → Option Nat} {ops : List Oper} {Q : St → Prop} {σ : St} {d : Option Nat} {g : Option (Nat × Bool)} {l1 l2 l3 l4 : List Nat}
theorem en_q {σ : St} {a b : Opd} {x y x' y' : Int} (ha : ev σ.env a = .a (.d (.agg [.int .i8 x, .int .i8 y]))) (hb : ev σ.env b = .a (.d (.agg [.int .i8 x', .int .i8 y']))) : quiet σ (.eqa true true [.int .i8, .int .i8] a b) = some (.a (.d (.s (.bool (decide (¬ (x = x' ∧ y = y'))))))) := by
  have e : ∀ p q : Int, (p == q) = decide (p = q) := fun p q => rfl
  by_cases h1 : x = x' <;> by_cases h2 : y = y' <;> simp [quiet, ha, hb, cellsA, hasKs, hasK, eqSs, eqS, sv, e, h1, h2]
theorem WR.en {a b : Opd} {x y x' y' : Int} (hw : wanted dsts σ.env g = some true) (ha : ev σ.env a = .a (.d (.agg [.int .i8 x, .int .i8 y]))) (hb : ev σ.env b = .a (.d (.agg [.int .i8 x', .int .i8 y'])))
    (k1 : ¬ (x = x' ∧ y = y') → WR Γ dsts ops Q (set d (.a (.d (.s (.bool true)))) σ)) (k2 : x = x' ∧ y = y' → WR Γ dsts ops Q (set d (.a (.d (.s (.bool false)))) σ)) : WR Γ dsts (⟨d, .eqa true true [.int .i8, .int .i8] a b, g, l1, l2, l3, l4⟩ :: ops) Q σ := by
  by_cases h : x = x' ∧ y = y'
  · exact WR.q hw (by rw [en_q ha hb]; simp only [h, and_self, not_true, decide_false]) (k2 h)
  · exact WR.q hw (by rw [en_q ha hb]; simp only [h, not_false_eq_true, decide_true]) (k1 h)
theorem WH.en {a b : Opd} {x y x' y' : Int} (hw : wanted dsts (kill l1 (only l3 σ)).env g = some true) (ha : ev (kill l1 (only l3 σ)).env a = .a (.d (.agg [.int .i8 x, .int .i8 y]))) (hb : ev (kill l1 (only l3 σ)).env b = .a (.d (.agg [.int .i8 x', .int .i8 y'])))
    (k1 : ¬ (x = x' ∧ y = y') → WH Γ dsts ops Q (set d (.a (.d (.s (.bool true)))) σ)) (k2 : x = x' ∧ y = y' → WH Γ dsts ops Q (set d (.a (.d (.s (.bool false)))) σ)) : WH Γ dsts (⟨d, .eqa true true [.int .i8, .int .i8] a b, g, l1, l2, l3, l4⟩ :: ops) Q σ := by
  by_cases h : x = x' ∧ y = y'
  · exact WH.q hw (by rw [show veil _ σ = kill l1 (only l3 σ) from rfl, en_q ha hb]; simp only [h, and_self, not_true, decide_false]) rfl (k2 h)
  · exact WH.q hw (by rw [show veil _ σ = kill l1 (only l3 σ) from rfl, en_q ha hb]; simp only [h, not_false_eq_true, decide_true]) rfl (k1 h)
/-- Two bools are compared. -/
theorem eb_q {σ : St} {ng : Bool} {a b : Opd} {x y : Bool} (ha : ev σ.env a = .a (.d (.s (.bool x)))) (hb : ev σ.env b = .a (.d (.s (.bool y)))) : quiet σ (.eqa ng false [.bool] a b) = some (.a (.d (.s (.bool ((x == y) != ng))))) := by
  cases ng <;> cases x <;> cases y <;> simp [quiet, ha, hb, cellsA, hasKs, hasK, eqSs, eqS, sv]
theorem WR.ebb {ng : Bool} {a b : Opd} {x y : Bool} (hw : wanted dsts σ.env g = some true) (ha : ev σ.env a = .a (.d (.s (.bool x)))) (hb : ev σ.env b = .a (.d (.s (.bool y))))
    (K : WR Γ dsts ops Q (set d (.a (.d (.s (.bool ((x == y) != ng))))) σ)) : WR Γ dsts (⟨d, .eqa ng false [.bool] a b, g, l1, l2, l3, l4⟩ :: ops) Q σ := WR.q hw (eb_q ha hb) K
theorem WH.ebb {ng : Bool} {a b : Opd} {x y : Bool} (hw : wanted dsts (kill l1 (only l3 σ)).env g = some true) (ha : ev (kill l1 (only l3 σ)).env a = .a (.d (.s (.bool x)))) (hb : ev (kill l1 (only l3 σ)).env b = .a (.d (.s (.bool y))))
    (K : WH Γ dsts ops Q (set d (.a (.d (.s (.bool ((x == y) != ng))))) σ)) : WH Γ dsts (⟨d, .eqa ng false [.bool] a b, g, l1, l2, l3, l4⟩ :: ops) Q σ := WH.q hw (eb_q ha hb) rfl K
end
end Go.DM

/- Rules for bits of 16. -/
set_option linter.unusedSimpArgs false
set_option linter.unusedVariables false
namespace Go.DM
open Go.IntWalk
theorem wrap16 {n : Int} (h : 0 ≤ n ∧ n < 65536) : IntKind.u16.wrap n = n := by
  show n % 65536 = n
  exact Int.emod_eq_of_lt h.1 h.2
theorem two_pow_lt {j : Nat} (h : j < 16) : (2 : Nat) ^ j < 65536 := Nat.pow_lt_pow_right (by decide) h
section
variable {dsts : Nat → Option Nat} {ops : List Oper} {Q : St → Prop} {σ : St} {d : Option Nat} {gd : Option (Nat × Bool)} {l1 l2 l3 l4 : List Nat} {Γ : Nat → Option Fn}
theorem quiet_b1s {a b : Opd} {k : IntKind} {y : Int} (ha : ev σ.env a = .a (.d (.s (.int .u16 1)))) (hb : ev σ.env b = .a (.d (.s (.int k y)))) (hy : 0 ≤ y ∧ y < 16) : quiet σ (.bin .shl a b) = some (.a (.d (.s (.int .u16 (2 ^ y.toNat))))) := by
  simp only [quiet, ha, hb, bin, isShift, if_true, shiftBin]
  rw [if_neg (by omega)]
  have e : Nat.min y.toNat IntKind.u16.bits = y.toNat := Nat.min_eq_left (by show y.toNat ≤ 16; omega)
  rw [e, Int.one_mul, wrap16]
  · rfl
  · have := two_pow_lt (j := y.toNat) (by omega)
    have hp : ((2 : Int) ^ y.toNat) = ((2 ^ y.toNat : Nat) : Int) := by push_cast; rfl
    rw [hp]
    exact ⟨Int.natCast_nonneg _, (Int.ofNat_lt.2 this : ((2 ^ y.toNat : Nat) : Int) < ((65536 : Nat) : Int))⟩
theorem WR.b1s {a b : Opd} {k : IntKind} {y : Int} (hw : wanted dsts σ.env gd = some true) (ha : ev σ.env a = .a (.d (.s (.int .u16 1)))) (hb : ev σ.env b = .a (.d (.s (.int k y)))) (hy : 0 ≤ y ∧ y < 16)
    (K : WR Γ dsts ops Q (set d (.a (.d (.s (.int .u16 (2 ^ y.toNat))))) σ)) : WR Γ dsts (⟨d, .bin .shl a b, gd, l1, l2, l3, l4⟩ :: ops) Q σ := WR.q hw (quiet_b1s ha hb hy) K
theorem WH.b1s {a b : Opd} {k : IntKind} {y : Int} (hw : wanted dsts (kill l1 (only l3 σ)).env gd = some true) (ha : ev (kill l1 (only l3 σ)).env a = .a (.d (.s (.int .u16 1)))) (hb : ev (kill l1 (only l3 σ)).env b = .a (.d (.s (.int k y)))) (hy : 0 ≤ y ∧ y < 16)
    (K : WH Γ dsts ops Q (set d (.a (.d (.s (.int .u16 (2 ^ y.toNat))))) σ)) : WH Γ dsts (⟨d, .bin .shl a b, gd, l1, l2, l3, l4⟩ :: ops) Q σ := WH.q hw (quiet_b1s ha hb hy) rfl K
theorem quiet_bor {a b : Opd} {n : Int} {j : Nat} (ha : ev σ.env a = .a (.d (.s (.int .u16 n)))) (hb : ev σ.env b = .a (.d (.s (.int .u16 (2 ^ j))))) (hn : (0 ≤ n ∧ n < 2 ^ j) ∧ j < 16) : quiet σ (.bin .or a b) = some (.a (.d (.s (.int .u16 (n + 2 ^ j))))) := by
  obtain ⟨⟨h0, h1⟩, hj⟩ := hn
  obtain ⟨m, rfl⟩ : ∃ m : Nat, n = m := ⟨n.toNat, by omega⟩
  have hp : ((2 : Int) ^ j) = ((2 ^ j : Nat) : Int) := by push_cast; rfl
  have hlt := two_pow_lt hj
  rw [hp] at h1
  have h1' : m < 2 ^ j := by exact_mod_cast h1
  have e : ((BitVec.ofInt 16 (m : Int) ||| BitVec.ofInt 16 ((2 ^ j : Nat) : Int)).toNat : Int) = (m : Int) + ((2 ^ j : Nat) : Int) := by
    rw [BitVec.toNat_or, BitVec.ofInt_natCast, BitVec.ofInt_natCast, BitVec.toNat_ofNat, BitVec.toNat_ofNat, Nat.mod_eq_of_lt (by omega), Nat.mod_eq_of_lt (by omega)]
    have := Nat.two_pow_add_eq_or_of_lt h1' 1
    rw [Nat.mul_one, Nat.or_comm] at this
    rw [← this]; push_cast; omega
  simp only [quiet, ha, hb, bin, isShift, if_true, intBin, hp]
  have e2 : IntKind.u16.wrap ((BitVec.ofInt IntKind.u16.bits (m : Int) ||| BitVec.ofInt IntKind.u16.bits ((2 ^ j : Nat) : Int)).toNat : Int) = (m : Int) + ((2 ^ j : Nat) : Int) := by
    show IntKind.u16.wrap ((BitVec.ofInt 16 (m : Int) ||| BitVec.ofInt 16 ((2 ^ j : Nat) : Int)).toNat : Int) = _
    rw [e, wrap16]
    have h2 : 2 * 2 ^ j ≤ 65536 := by
      have : (2 : Nat) ^ (j + 1) ≤ 2 ^ 16 := Nat.pow_le_pow_right (by decide) (by omega)
      rw [Nat.pow_succ] at this; omega
    omega
  rw [e2]; rfl
theorem WR.bor {a b : Opd} {n : Int} {j : Nat} (hw : wanted dsts σ.env gd = some true) (ha : ev σ.env a = .a (.d (.s (.int .u16 n)))) (hb : ev σ.env b = .a (.d (.s (.int .u16 (2 ^ j))))) (hn : (0 ≤ n ∧ n < 2 ^ j) ∧ j < 16)
    (K : WR Γ dsts ops Q (set d (.a (.d (.s (.int .u16 (n + 2 ^ j))))) σ)) : WR Γ dsts (⟨d, .bin .or a b, gd, l1, l2, l3, l4⟩ :: ops) Q σ := WR.q hw (quiet_bor ha hb hn) K
theorem WH.bor {a b : Opd} {n : Int} {j : Nat} (hw : wanted dsts (kill l1 (only l3 σ)).env gd = some true) (ha : ev (kill l1 (only l3 σ)).env a = .a (.d (.s (.int .u16 n)))) (hb : ev (kill l1 (only l3 σ)).env b = .a (.d (.s (.int .u16 (2 ^ j))))) (hn : (0 ≤ n ∧ n < 2 ^ j) ∧ j < 16)
    (K : WH Γ dsts ops Q (set d (.a (.d (.s (.int .u16 (n + 2 ^ j))))) σ)) : WH Γ dsts (⟨d, .bin .or a b, gd, l1, l2, l3, l4⟩ :: ops) Q σ := WH.q hw (quiet_bor ha hb hn) rfl K
theorem quiet_bsr {a b : Opd} {k : IntKind} {n y : Int} (ha : ev σ.env a = .a (.d (.s (.int .u16 n)))) (hb : ev σ.env b = .a (.d (.s (.int k y)))) (hy : 0 ≤ y ∧ y < 16) : quiet σ (.bin .shr a b) = some (.a (.d (.s (.int .u16 (n / 2 ^ y.toNat))))) := by
  simp only [quiet, ha, hb, bin, isShift, if_true, shiftBin]
  rw [if_neg (by omega)]
  have e : Nat.min y.toNat IntKind.u16.bits = y.toNat := Nat.min_eq_left (by show y.toNat ≤ 16; omega)
  have hp : ((2 : Int) ^ y.toNat) = ((2 ^ y.toNat : Nat) : Int) := by push_cast; rfl
  rw [e, hp, Int.fdiv_eq_ediv_of_nonneg _ (Int.natCast_nonneg _)]
  rfl
theorem WR.bsr {a b : Opd} {k : IntKind} {n y : Int} (hw : wanted dsts σ.env gd = some true) (ha : ev σ.env a = .a (.d (.s (.int .u16 n)))) (hb : ev σ.env b = .a (.d (.s (.int k y)))) (hy : 0 ≤ y ∧ y < 16)
    (K : WR Γ dsts ops Q (set d (.a (.d (.s (.int .u16 (n / 2 ^ y.toNat))))) σ)) : WR Γ dsts (⟨d, .bin .shr a b, gd, l1, l2, l3, l4⟩ :: ops) Q σ := WR.q hw (quiet_bsr ha hb hy) K
theorem WH.bsr {a b : Opd} {k : IntKind} {n y : Int} (hw : wanted dsts (kill l1 (only l3 σ)).env gd = some true) (ha : ev (kill l1 (only l3 σ)).env a = .a (.d (.s (.int .u16 n)))) (hb : ev (kill l1 (only l3 σ)).env b = .a (.d (.s (.int k y)))) (hy : 0 ≤ y ∧ y < 16)
    (K : WH Γ dsts ops Q (set d (.a (.d (.s (.int .u16 (n / 2 ^ y.toNat))))) σ)) : WH Γ dsts (⟨d, .bin .shr a b, gd, l1, l2, l3, l4⟩ :: ops) Q σ := WH.q hw (quiet_bsr ha hb hy) rfl K
theorem quiet_ba1 {a b : Opd} {n : Int} (ha : ev σ.env a = .a (.d (.s (.int .u16 n)))) (hb : ev σ.env b = .a (.d (.s (.int .u16 1)))) (hn : 0 ≤ n ∧ n < 65536) : quiet σ (.bin .and a b) = some (.a (.d (.s (.int .u16 (n % 2))))) := by
  obtain ⟨m, rfl⟩ : ∃ m : Nat, n = m := ⟨n.toNat, by omega⟩
  have e : ((BitVec.ofInt 16 (m : Int) &&& BitVec.ofInt 16 1).toNat : Int) = (m : Int) % 2 := by
    rw [BitVec.toNat_and, BitVec.ofInt_natCast, BitVec.toNat_ofNat, Nat.mod_eq_of_lt (by omega), show (BitVec.ofInt 16 1).toNat = 1 by decide, Nat.and_one_is_mod]
    omega
  simp only [quiet, ha, hb, bin, isShift, if_true, intBin]
  have e2 : IntKind.u16.wrap ((BitVec.ofInt IntKind.u16.bits (m : Int) &&& BitVec.ofInt IntKind.u16.bits 1).toNat : Int) = (m : Int) % 2 := by
    show IntKind.u16.wrap ((BitVec.ofInt 16 (m : Int) &&& BitVec.ofInt 16 1).toNat : Int) = _
    rw [e, wrap16]; omega
  rw [e2]; rfl
theorem WR.ba1 {a b : Opd} {n : Int} (hw : wanted dsts σ.env gd = some true) (ha : ev σ.env a = .a (.d (.s (.int .u16 n)))) (hb : ev σ.env b = .a (.d (.s (.int .u16 1)))) (hn : 0 ≤ n ∧ n < 65536)
    (K : WR Γ dsts ops Q (set d (.a (.d (.s (.int .u16 (n % 2))))) σ)) : WR Γ dsts (⟨d, .bin .and a b, gd, l1, l2, l3, l4⟩ :: ops) Q σ := WR.q hw (quiet_ba1 ha hb hn) K
theorem WH.ba1 {a b : Opd} {n : Int} (hw : wanted dsts (kill l1 (only l3 σ)).env gd = some true) (ha : ev (kill l1 (only l3 σ)).env a = .a (.d (.s (.int .u16 n)))) (hb : ev (kill l1 (only l3 σ)).env b = .a (.d (.s (.int .u16 1)))) (hn : 0 ≤ n ∧ n < 65536)
    (K : WH Γ dsts ops Q (set d (.a (.d (.s (.int .u16 (n % 2))))) σ)) : WH Γ dsts (⟨d, .bin .and a b, gd, l1, l2, l3, l4⟩ :: ops) Q σ := WH.q hw (quiet_ba1 ha hb hn) rfl K
end
/-- The number of a row of bits. -/
def bitsV (f : Nat → Bool) : Nat → Nat
  | 0 => 0
  | x + 1 => bitsV f x + if f x = true then 2 ^ x else 0
theorem bitsV_lt (f : Nat → Bool) : ∀ n, bitsV f n < 2 ^ n
  | 0 => by simp [bitsV]
  | n + 1 => by
    have := bitsV_lt f n
    unfold bitsV
    rw [Nat.pow_succ]
    split <;> omega
theorem bitsV_congr {f f' : Nat → Bool} : ∀ {n : Nat}, (∀ x, x < n → f x = f' x) → bitsV f n = bitsV f' n
  | 0, _ => rfl
  | n + 1, h => by
    unfold bitsV
    rw [bitsV_congr (n := n) fun x hx => h x (by omega), h n (by omega)]
theorem bitsV_bit (f : Nat → Bool) (x : Nat) : ∀ n, x < n → (bitsV f n / 2 ^ x) % 2 = if f x = true then 1 else 0
  | 0, h => by omega
  | n + 1, h => by
    unfold bitsV
    by_cases e : x = n
    · subst e
      have h1 := bitsV_lt f x
      have hp : 0 < 2 ^ x := Nat.two_pow_pos x
      by_cases hf : f x = true
      · rw [if_pos hf, if_pos hf, Nat.add_div_right _ hp, Nat.div_eq_of_lt h1]
      · rw [if_neg hf, if_neg hf, Nat.add_zero, Nat.div_eq_of_lt h1]
    · have ih := bitsV_bit f x n (by omega)
      by_cases hf : f n = true
      · rw [if_pos hf]
        have hn : 2 ^ n = 2 ^ x * (2 * 2 ^ (n - x - 1)) := by
          rw [← Nat.mul_assoc, ← Nat.pow_succ, ← Nat.pow_add]; congr 1; omega
        have hp : 0 < 2 ^ x := Nat.two_pow_pos x
        rw [hn, Nat.add_mul_div_left _ _ hp, Nat.add_mul_mod_self_left, ih]
      · rw [if_neg hf, Nat.add_zero, ih]
theorem bitsV_over (f : Nat → Bool) (x n : Nat) (h : n ≤ x) : bitsV f n / 2 ^ x = 0 :=
  Nat.div_eq_of_lt (Nat.lt_of_lt_of_le (bitsV_lt f n) (Nat.pow_le_pow_right (by decide) h))
end Go.DM
