/- Functions of Go's library whose answers are given: that they do so, whatever the program. -/
import Derived.Test.YteghgkdakhelfaaK191Given
import Derived.Shelf.Small.Strs
import Derived.Shelf.Strings.Repeat
namespace Go.DM
variable {P : Program}

theorem none_of_d {ρ : Nat → Nat} {w : World} {xs : List Arg} {vs : List Value} {rs : List (Option Reg)} (h : ArgsRel ρ w xs vs rs) (hd : ∀ x ∈ xs, ∃ d, x = .d d) : some? rs = [] := by
  apply List.eq_nil_iff_forall_not_mem.2
  intro m hm
  obtain ⟨i, hi⟩ := some?_mem.1 hm
  have hir : i < rs.length := (List.getElem?_eq_some_iff.1 hi).1
  have h1 : i < xs.length := by rw [h.len']; exact hir
  have h2 : i < vs.length := by rw [← h.len]; exact h1
  have he := h.each i xs[i] vs[i] (some m) (by simp) (by simp) hi
  obtain ⟨d, hx⟩ := hd xs[i] (List.getElem_mem h1)
  rw [hx] at he
  exact he
/-- A call of plain data that gives one plain value and leaves the world as it was. -/
theorem res_plain {ρ : Nat → Nat} {w : World} {xs : List Arg} {vs : List Value} {rs : List (Option Reg)} (h : ArgsRel ρ w xs vs rs) (hd : ∀ x ∈ xs, ∃ d, x = .d d) (x : S) : ResRel w w rs ⟨[.s x], []⟩ (enc x) := by
  have hn := none_of_d h hd
  refine ⟨by rw [hn]; exact Left.refl _ _, ⟨[enc x], [none], rfl, rfl, rfl, fun i x' u b h1 h2 h3 => ?_, fun i j b h1 h2 => ?_⟩, by rw [hn]; exact All2.nil⟩
  · match i with
    | 0 => cases h1; cases h2; cases h3; rfl
    | k + 1 => cases h1
  · match i with
    | 0 => cases h1
    | k + 1 => cases h1
theorem Known.indexByte {ρ : Nat → Nat} {σ : Go.Shelf.Ren} (L : Go.Proofs.Lays.n137 P σ) {f : Nat} (hf : σ.f 137 = f) : Known P ρ f indexByteO := by
  intro xs r h w vs rs ha
  subst hf
  unfold indexByteO at h
  split at h
  · rename_i s c
    cases h
    have hl := ha.len
    have hl' := ha.len'
    match vs, hl, rs, hl' with
    | [v0, v1], _, [r0, r1], _ =>
      have hd : ∀ x ∈ ([.d (.s (.str s)), .d (.s (.int .u8 c))] : List Arg), ∃ d, x = .d d := by
        intro x hx
        simp only [List.mem_cons, List.mem_nil_iff, or_false] at hx
        rcases hx with rfl | rfl <;> exact ⟨_, rfl⟩
      have e0 := ha.each 0 _ v0 r0 rfl rfl rfl
      have e1 := ha.each 1 _ v1 r1 rfl rfl rfl
      cases r0 with
      | some m => exact e0.elim
      | none =>
        cases r1 with
        | some m => exact e1.elim
        | none =>
          have e0 : DRel _ _ _ (.s (.str s)) v0 := e0
          have e1 : DRel _ _ _ (.s (.int .u8 c)) v1 := e1
          cases e0
          cases e1
          refine Go.Calls.mono (Go.Proofs.Any.strings_IndexByte L ⟨s.toArray⟩ c w) ?_
          rintro e w' ⟨rfl, rfl⟩
          exact ⟨_, rfl, res_plain ha hd _⟩
  · cases h
theorem left_below {w w' : World} (h : Go.RowKit.Below w.heap.size w w') : Left [] w w' := by
  refine ⟨h.os, h.tape, h.output, h.size, fun b c T fz hb => ?_, fun b hb _ => h.block b hb, fun m hm => by cases hm⟩
  have hlt : b < w.heap.size := (Array.getElem?_eq_some_iff.1 hb).1
  exact ⟨c, by rw [h.block b hlt]; exact hb, rfl⟩
theorem res_below {ρ : Nat → Nat} {w w' : World} {xs : List Arg} {vs : List Value} {rs : List (Option Reg)} (h : ArgsRel ρ w xs vs rs) (hd : ∀ x ∈ xs, ∃ d, x = .d d) (hb : Go.RowKit.Below w.heap.size w w') (x : S) : ResRel w w' rs ⟨[.s x], []⟩ (enc x) := by
  have hn := none_of_d h hd
  refine ⟨by rw [hn]; exact left_below hb, ⟨[enc x], [none], rfl, rfl, rfl, fun i x' u b h1 h2 h3 => ?_, fun i j b h1 h2 => ?_⟩, by rw [hn]; exact All2.nil⟩
  · match i with
    | 0 => cases h1; cases h2; cases h3; rfl
    | k + 1 => cases h1
  · match i with
    | 0 => cases h1
    | k + 1 => cases h1
theorem Known.repeat_ {ρ : Nat → Nat} {σ : Go.Shelf.Ren} (L : Go.Proofs.Lays.n105 P σ) (X : Go.Proofs.Builder.Extra P σ) {f : Nat} (hf : σ.f 105 = f) : Known P ρ f repeatO := by
  intro xs r h w vs rs ha
  subst hf
  unfold repeatO at h
  split at h
  · rename_i s n
    split at h
    · rename_i hb
      cases h
      have hl := ha.len
      have hl' := ha.len'
      match vs, hl, rs, hl' with
      | [v0, v1], _, [r0, r1], _ =>
        have hd : ∀ x ∈ ([.d (.s (.str s)), .d (.s (.int .i64 n))] : List Arg), ∃ d, x = .d d := by
          intro x hx
          simp only [List.mem_cons, List.mem_nil_iff, or_false] at hx
          rcases hx with rfl | rfl <;> exact ⟨_, rfl⟩
        have e0 := ha.each 0 _ v0 r0 rfl rfl rfl
        have e1 := ha.each 1 _ v1 r1 rfl rfl rfl
        cases r0 with
        | some m => exact e0.elim
        | none =>
          cases r1 with
          | some m => exact e1.elim
          | none =>
            have e0 : DRel _ _ _ (.s (.str s)) v0 := e0
            have e1 : DRel _ _ _ (.s (.int .i64 n)) v1 := e1
            cases e0
            cases e1
            obtain ⟨N, rfl⟩ : ∃ N : Nat, n = N := ⟨n.toNat, by omega⟩
            have hm : s.length * N ≤ 1000000 * 1000000 := Nat.mul_le_mul hb.2.2 (by omega)
            refine Go.Calls.mono (Go.Proofs.Any.strings_Repeat L X ⟨s.toArray⟩ N w (by omega) ?_) ?_
            · show s.toArray.size * N ≤ _
              rw [List.size_toArray]; omega
            · rintro e w' ⟨rfl, hbl⟩
              exact ⟨_, rfl, res_below ha hd hbl _⟩
    · cases h
  · cases h
end Go.DM
