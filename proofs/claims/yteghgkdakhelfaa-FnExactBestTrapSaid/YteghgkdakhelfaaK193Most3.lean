/- The cell at which a mole is most often: the reference's side, the statement. -/
import Derived.Test.YteghgkdakhelfaaK193Those
set_option linter.unusedSimpArgs false
set_option linter.unusedVariables false
set_option maxHeartbeats 4000000
namespace Go.DM
open Go.IntWalk
variable {w h : Int} {g : Nat → Int} {cs : List S} {q : Nat → Int} {qs : List S}
theorem QF_b : ∀ (n : Nat) (L : List Cel), L.length = n → ∀ k, 0 ≤ QF L k ∧ QF L k ≤ n
  | 0, L, hl, k => by obtain rfl := List.eq_nil_of_length_eq_zero hl; exact ⟨Int.le_refl _, Int.le_refl _⟩
  | n + 1, L, hl, k => by
    have hne : L ≠ [] := fun e => by rw [e] at hl; cases hl
    have e := List.dropLast_concat_getLast hne
    have ih := QF_b n L.dropLast (by simp [hl])
    rw [← e, QF_snoc]
    unfold gset
    have h1 := ih k
    have h2 := ih (kC (L.getLast hne))
    split <;> omega
theorem most_grid {L A : List Cel} (hL : ∀ d ∈ L, In9 d) (hA : ∀ c ∈ A, In9 c) : mostF (fun c => QF L (kC c)) A = mostF (cntL L) A := mostF_congr fun c hc => QF_cnt _ L rfl hL c (hA c hc)
end Go.DM
