/- Levels made even: the reference's walk. -/
import Derived.Test.YteghgkdakhelfaaK194Even4
set_option linter.unusedSimpArgs false
set_option linter.unusedVariables false
set_option maxHeartbeats 4000000
namespace Go.DM
open Go.IntWalk
variable {w h : Int} {g : Nat → Int} {cs : List S} {q : Nat → Int} {qs : List S}
/-- What was found so far among the cells that are left: none, or the first in the order. -/
def Best (q : Nat → Int) (F T : List Cel) (t : Nat) (i : Nat) (b : Int) : Prop :=
  (b = -1 ∧ ∀ j, j < i → gC F j ∈ T.take t) ∨ (0 ≤ b ∧ b < i ∧ gC F b.toNat ∉ T.take t ∧ ∀ j, j < i → gC F j ∉ T.take t → keyE q (gC F b.toNat) ≤ keyE q (gC F j))
theorem own_low {T : List Cel} {low : Int} {t : Nat} {c : Cel} : ownE T low t c = low ↔ c ∉ T.take t := by
  unfold ownE
  split
  · rename_i hm
    constructor
    · intro h; omega
    · intro h; exact absurd hm h
  · rename_i hm
    exact ⟨fun _ => hm, fun _ => rfl⟩
/-- The one that is found is the next of the sorted row. -/
theorem best_is {F T : List Cel} {t : Nat} {b : Int} (hT : Srt (keyE q) T) (hTm : ∀ c, c ∈ T ↔ c ∈ F) (ht : t < T.length) (hb : Best q F T t F.length b) : 0 ≤ b ∧ b < F.length ∧ gC F b.toNat = gC T t := by
  have hnt : gC T t ∉ T.take t := fun hm => by
    obtain ⟨j, hj, e⟩ := take_gC (by omega) hm
    exact dis_ne hT.dis (show j < T.length by omega) ht (by omega) e
  have hF : gC T t ∈ F := (hTm _).1 (gC_mem ht)
  obtain ⟨j, hj, e⟩ := List.getElem_of_mem hF
  have e2 := gC_get hj
  rw [List.getElem?_eq_getElem hj] at e2
  simp only [Option.some.injEq] at e2
  rw [e2] at e
  rcases hb with ⟨_, h1⟩ | ⟨h1, h2, h3, h4⟩
  · exact absurd (by rw [← e]; exact h1 j hj) hnt
  · refine ⟨h1, h2, ?_⟩
    have k1 := h4 j hj (by rw [e]; exact hnt)
    rw [e] at k1
    have hbm : gC F b.toNat ∈ T := (hTm _).2 (gC_mem (by omega))
    obtain ⟨k, hk, e3⟩ := List.getElem_of_mem hbm
    have e4 := gC_get hk
    rw [List.getElem?_eq_getElem hk] at e4
    simp only [Option.some.injEq] at e4
    rw [e4] at e3
    by_cases hkt : k = t
    · rw [← e3, hkt]
    · exfalso
      rcases Nat.lt_or_gt_of_ne hkt with hlt | hlt
      · apply h3
        rw [← e3]
        have : (T.take t)[k]? = some (gC T k) := by rw [List.getElem?_take_of_lt hlt]; exact gC_get hk
        exact List.mem_of_getElem? this
      · have := srt_at hT hlt hk
        rw [e3] at this; omega
theorem best_step {F T : List Cel} {t i : Nat} {b : Int} (ho : F.Pairwise fun a b => kC a < kC b) (h9 : ∀ c ∈ F, InC c) (hi : i < F.length) (hb : Best q F T t i b) :
    (gC F i ∈ T.take t → Best q F T t (i + 1) b) ∧ (gC F i ∉ T.take t → b < 0 → Best q F T t (i + 1) i) ∧
    (gC F i ∉ T.take t → 0 ≤ b → b.toNat < i ∧ (lv q (gC F b.toNat) < lv q (gC F i) → Best q F T t (i + 1) i) ∧ (¬ lv q (gC F b.toNat) < lv q (gC F i) → Best q F T t (i + 1) b)) := by
  have hk : ∀ j, j < i → kC (gC F j) < kC (gC F i) ∧ kC (gC F i) < 100 := fun j hj => by
    have h1 := List.pairwise_iff_getElem.1 ho j i (by omega) hi hj
    have e1 := gC_get (show j < F.length by omega)
    have e2 := gC_get hi
    rw [List.getElem?_eq_getElem (by omega)] at e1
    rw [List.getElem?_eq_getElem hi] at e2
    simp only [Option.some.injEq] at e1 e2
    rw [e1, e2] at h1
    have := h9 _ (gC_mem hi)
    exact ⟨h1, by unfold kC; omega⟩
  have cut : ∀ j, j < i + 1 → j < i ∨ j = i := fun j hj => by omega
  refine ⟨fun hm => ?_, fun hm hneg => ?_, fun hm hpos => ?_⟩
  · rcases hb with ⟨h1, h2⟩ | ⟨h1, h2, h3, h4⟩
    · refine .inl ⟨h1, fun j hj => ?_⟩
      rcases cut j hj with hj | rfl
      · exact h2 j hj
      · exact hm
    · refine .inr ⟨h1, by omega, h3, fun j hj hn => ?_⟩
      rcases cut j hj with hj | rfl
      · exact h4 j hj hn
      · exact absurd hm hn
  · rcases hb with ⟨h1, h2⟩ | ⟨h1, h2, h3, h4⟩
    · refine .inr ⟨by omega, by omega, hm, fun j hj hn => ?_⟩
      rcases cut j hj with hj | rfl
      · exact absurd (h2 j hj) hn
      · exact Int.le_refl _
    · omega
  · rcases hb with ⟨h1, h2⟩ | ⟨h1, h2, h3, h4⟩
    · omega
    · have hkb := hk b.toNat (by omega)
      refine ⟨by omega, fun hlt => ?_, fun hnl => ?_⟩
      · refine .inr ⟨by omega, by omega, hm, fun j hj hn => ?_⟩
        rcases cut j hj with hj | rfl
        · have h5 := h4 j hj hn
          have h6 : keyE q (gC F i) < keyE q (gC F b.toNat) := by unfold keyE; omega
          show keyE q (gC F i) ≤ _
          omega
        · exact Int.le_refl _
      · refine .inr ⟨h1, by omega, h3, fun j hj hn => ?_⟩
        rcases cut j hj with hj | rfl
        · exact h4 j hj hn
        · unfold keyE; omega
end Go.DM
