/- strings.Split at one byte: its pieces. -/
import Derived.Test.YtgbifpijjfolbaaGreatK441Given
import Derived.Lib.SplitLaws
set_option linter.all false
namespace Go.DM
variable [Tok]
open Go.Lib
theorem pieces_ne (c : UInt8) : ∀ s, pieces c s ≠ []
  | [] => by simp [pieces]
  | b :: r => by
    unfold pieces
    split
    · simp
    · split <;> simp
theorem pieces_hit (c : UInt8) (r : List UInt8) : pieces c (c :: r) = [] :: pieces c r := by simp [pieces]
theorem pieces_miss {b c : UInt8} (h : b ≠ c) (r : List UInt8) : ∃ p ps, pieces c r = p :: ps ∧ pieces c (b :: r) = (b :: p) :: ps := by
  cases hp : pieces c r with
  | nil => exact absurd hp (pieces_ne c r)
  | cons p ps => exact ⟨p, ps, rfl, by simp [pieces, h, hp]⟩
theorem pieces_count (c : UInt8) : ∀ s, (pieces c s).length = s.count c + 1
  | [] => rfl
  | b :: r => by
    by_cases h : b = c
    · subst h; rw [pieces_hit, List.length_cons, pieces_count b r]; simp
    · obtain ⟨p, ps, h1, h2⟩ := pieces_miss h r
      have := pieces_count c r
      rw [h1] at this; rw [h2, List.length_cons, List.count_cons_of_ne (by simpa using h)]
      simpa using this
theorem split_one (c : UInt8) : ∀ s : List UInt8, splitK [c] 0 (count s [c]) s = pieces c s
  | [] => by rw [count_miss (by simp [index])]; rfl
  | b :: l => by
    by_cases h : b = c
    · subst h
      rw [count_cons_eq, Nat.add_comm 1, pieces_hit, ← split_one b l]
      have hix : index (b :: l) [b] = 0 := by rw [index]; simp [List.isPrefixOf]
      rw [splitK, hix, if_neg (by decide)]
      simp
    · obtain ⟨p, ps, h1, h2⟩ := pieces_miss h l
      rw [h2, count_cons_ne b c l h]
      have hp : ([c] : List UInt8).isPrefixOf (b :: l) = false := by simp [List.isPrefixOf, Ne.symm h]
      have hix : index (b :: l) [c] = if index l [c] == -1 then -1 else index l [c] + 1 := by rw [index, hp]; simp
      have ih := split_one c l
      rw [h1] at ih
      have hge := index_ge l [c]
      cases hk : count l [c] with
      | zero =>
        rw [hk] at ih
        simp only [splitK] at ih ⊢
        cases ih; rfl
      | succ k =>
        rw [hk] at ih
        simp only [splitK] at ih ⊢
        by_cases hm : index l [c] = -1
        · rw [hix]
          simp only [hm] at ih ⊢
          simp only [beq_self_eq_true, if_true] at ih ⊢
          cases ih; rfl
        · have hne : (index l [c] == -1) = false := by simpa using hm
          rw [hne] at ih
          obtain ⟨j, hj⟩ : ∃ j : Nat, index l [c] = j := ⟨(index l [c]).toNat, by omega⟩
          rw [hix, hne]
          rw [hj] at ih ⊢
          have e1 : ((j : Int) + 1 == -1) = false := by simpa using (by omega : ¬ (j : Int) + 1 = -1)
          have e2 : ((j : Int) + 1).toNat = j + 1 := by omega
          simp only [Bool.false_eq_true, if_false, e1, e2, Int.toNat_natCast, Nat.add_zero, List.length_singleton] at ih ⊢
          cases ih
          rfl
theorem splitB_one (c : UInt8) (s : List UInt8) : (splitB ⟨#[c]⟩ 0 (countB ⟨s.toArray⟩ ⟨#[c]⟩) ⟨s.toArray⟩).map Value.string = (pieces c s).map fun x => Value.string ⟨x.toArray⟩ := by
  have h := splitB_data ⟨#[c]⟩ 0 (countB ⟨s.toArray⟩ ⟨#[c]⟩) ⟨s.toArray⟩
  have e : splitK [c] 0 (countB ⟨s.toArray⟩ ⟨#[c]⟩) s = pieces c s := split_one c s
  have h' : (splitB ⟨#[c]⟩ 0 (countB ⟨s.toArray⟩ ⟨#[c]⟩) ⟨s.toArray⟩).map (·.data.toList) = pieces c s := h.trans e
  rw [← h', List.map_map]
  rfl
theorem countB_one (c : UInt8) (s : List UInt8) : countB ⟨s.toArray⟩ ⟨#[c]⟩ + 1 = (pieces c s).length := by
  rw [pieces_count]
  show count s [c] + 1 = _
  rw [count_one]
end Go.DM
