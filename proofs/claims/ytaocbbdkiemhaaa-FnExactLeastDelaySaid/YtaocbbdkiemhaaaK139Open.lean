/- Arguments as they come: lawns, levels, cells. -/
import Derived.Test.YtaocbbdkiemhaaaK139Given
import Derived.Test.YtaocbbdkiemhaaaK139X
set_option linter.unusedSimpArgs false
set_option linter.unusedVariables false
namespace Go.DM
set_option linter.unusedSectionVars false
variable [Tok]
def lawnKs : List SK := [.int .i8, .int .i8] ++ List.replicate 100 (.int .u8)
def levKs : List SK := List.replicate 100 (.int .i8)
def cellKs : List SK := [.int .i8, .int .i8]
def intAt (ss : List S) (k : Nat) : Int := match ss[k]? with | some (.int _ n) => n | _ => 0

theorem i8_at {ks : List SK} {ss : List S} (h : All2 wfS ks ss) {k : Nat} (hk : ks[k]? = some (.int .i8)) : ss[k]? = some (.int .i8 (intAt ss k)) ∧ -128 ≤ intAt ss k ∧ intAt ss k ≤ 127 := by
  obtain ⟨v, h1, h2⟩ := h.get hk
  cases v with
  | int k' n =>
    obtain ⟨rfl, hw⟩ := h2
    have hr : -128 ≤ n ∧ n ≤ 127 := by simpa [Lit.wf, IntKind.min, IntKind.max, IntKind.signed, IntKind.bits] using hw
    simp only [intAt, h1]
    exact ⟨trivial, hr⟩
  | _ => exact h2.elim
theorem u8_at {ks : List SK} {ss : List S} (h : All2 wfS ks ss) {k : Nat} (hk : ks[k]? = some (.int .u8)) : ss[k]? = some (.int .u8 (intAt ss k)) ∧ 0 ≤ intAt ss k ∧ intAt ss k ≤ 255 := by
  obtain ⟨v, h1, h2⟩ := h.get hk
  cases v with
  | int k' n =>
    obtain ⟨rfl, hw⟩ := h2
    have hr : 0 ≤ n ∧ n ≤ 255 := by simpa [Lit.wf, IntKind.min, IntKind.max, IntKind.signed, IntKind.bits] using hw
    simp only [intAt, h1]
    exact ⟨trivial, hr⟩
  | _ => exact h2.elim

theorem isLawn_of {ss : List S} (h : All2 wfS lawnKs ss) : ∃ w hh g, IsLawn w hh g ss := by
  have hu : ∀ k, k < 100 → lawnKs[k + 2]? = some (.int .u8) := fun k hk => by
    show (List.replicate 100 (SK.int .u8))[k]? = _
    rw [List.getElem?_replicate, if_pos hk]
  refine ⟨intAt ss 0, intAt ss 1, fun k => intAt ss (k + 2), (i8_at h rfl).2, (i8_at h rfl).2, fun k hk => (u8_at h (hu k hk)).2, by rw [← h.1]; rfl, (i8_at h rfl).1, (i8_at h rfl).1, fun k hk => (u8_at h (hu k hk)).1⟩
theorem isLev_of {ss : List S} (h : All2 wfS levKs ss) : ∃ q, IsLev q ss := by
  have hu : ∀ k, k < 100 → levKs[k]? = some (.int .i8) := fun k hk => by
    show (List.replicate 100 (SK.int .i8))[k]? = _
    rw [List.getElem?_replicate, if_pos hk]
  exact ⟨fun k => intAt ss k, fun k hk => (i8_at h (hu k hk)).2, by rw [← h.1]; rfl, fun k hk => (i8_at h (hu k hk)).1⟩
theorem cell_of {ss : List S} (h : All2 wfS cellKs ss) : ∃ x y, ss = [.int .i8 x, .int .i8 y] ∧ -128 ≤ x ∧ x ≤ 127 ∧ -128 ≤ y ∧ y ≤ 127 := by
  obtain ⟨h1, h2⟩ := i8_at h (k := 0) rfl
  obtain ⟨h3, h4⟩ := i8_at h (k := 1) rfl
  have hl : ss.length = 2 := by rw [← h.1]; rfl
  match ss, hl with
  | [a, b], _ =>
    simp at h1 h3
    exact ⟨_, _, by rw [← h1, ← h3], h2.1, h2.2, h4.1, h4.2⟩

section
open Go.ChangeShapes Go.WideShapes Go.ChangeAt Go.RowKit
variable {H : Type} {enc' : TypeId × Value → H} {P : Program} {w : World} {base : Nat} {sp : Nat → Bool} {held : Bool}
theorem open_int {t : TypeId} {k : IntKind} {v : Value} {d : DataW H} {ps : List MemPlace} {r : Reach} {b0 : Nat} (ht : P.underlying t = some (.int k)) (hv : Value.okWide P w r b0 t v) (h : DataW.Trod enc' P w base sp held t v d ps) : ∃ n, v = .int k n ∧ (Lit.int k n).wf = true := by
  obtain ⟨fuel, hf⟩ := h
  cases fuel with
  | zero => simp [DataW.trod] at hf
  | succ m =>
    cases v <;> first
      | (simp [DataW.trod, ht, Value.cells] at hf; done)
      | (rename_i k' n
         simp [DataW.trod, ht, Value.cells] at hf
         obtain ⟨⟨rfl, h2⟩, _⟩ := hf
         exact ⟨n, rfl, h2⟩)
      | (exfalso; unfold Value.okWide at hv; simp [ht, Cell.okWide, Cell.ok] at hv)
theorem open_str {t : TypeId} {v : Value} {d : DataW H} {ps : List MemPlace} {r : Reach} {b0 : Nat} (ht : P.underlying t = some .string) (hv : Value.okWide P w r b0 t v) (h : DataW.Trod enc' P w base sp held t v d ps) : ∃ s, v = DM.enc (.str s) ∧ s.length ≤ maxLen := by
  obtain ⟨fuel, hf⟩ := h
  cases fuel with
  | zero => simp [DataW.trod] at hf
  | succ m =>
    cases v <;> first
      | (simp [DataW.trod, ht, Value.cells] at hf; done)
      | (rename_i s
         simp only [DataW.trod, ht, Value.cells] at hf
         split at hf
         · rename_i hs
           refine ⟨s.data.toList, ?_, ?_⟩
           · simp [DM.enc]
           · rw [Array.length_toList]; exact hs
         · cases hf)
      | (exfalso; unfold Value.okWide at hv; simp [ht, Cell.okWide, Cell.ok] at hv)
end
end Go.DM
