/- A mole's night: the reference's side gives the same. -/
import Derived.Test.YtaocbbdkiemhaaaK139Loop
import Derived.Test.YtaocbbdkiemhaaaK139Beside
import Derived.Test.YtaocbbdkiemhaaaK139NightOf
set_option linter.unusedSimpArgs false
set_option linter.unusedVariables false
set_option maxHeartbeats 4000000
namespace Go.DM
set_option linter.unusedSectionVars false
variable [Tok]
open Go.IntWalk
variable {w h : Int} {g : Nat → Int} {cs : List S} {q : Nat → Int} {qs : List S}

def roundP (w h : Int) (g : Nat → Int) (b : Cel) (r : Nat) (c : Cel) : Prop := Is w h g 0 c.1 c.2 ∧ ¬ (r = 0 ∧ c.1 = b.1 ∧ c.2 = b.2)
instance (w h : Int) (g : Nat → Int) (b : Cel) (r : Nat) : DecidablePred (roundP w h g b r) := fun c => inferInstanceAs (Decidable (_ ∧ _))
def seen (w h : Int) (g q : Nat → Int) (a b : Cel) (r i : Nat) : List Cel := ((inside w h (Near a.1 a.2)).take i).filter fun c => decide (roundP w h g b r c)
theorem lowest_snoc (q : Nat → Int) (a c : Cel) (l : List Cel) : lowest q a (l ++ [c]) = if l = [] ∨ lv q c < lv q (lowest q a l) then c else lowest q a l := by
  cases l with
  | nil => simp [lowest]
  | cons d r => simp [lowest, List.foldl_append]
theorem near_ne {a c : Cel} (h : c ∈ Near a.1 a.2) : c ≠ a := by
  intro e; subst e
  have : ∀ x y : Int, (x, y) ∉ Near x y := by intro x y; simp [Near]; omega
  exact this _ _ h
theorem low_a {a : Cel} {l : List Cel} (hl : ∀ c ∈ l, c ≠ a) : lowest q a l = a ↔ l = [] := by
  constructor
  · intro h
    rcases lowest_mem q a l with h2 | h2
    · cases l with
      | nil => rfl
      | cons d r =>
        exfalso
        have : lowest q a (d :: r) ∈ d :: r := by
          rcases lowest_mem q d (d :: r) with h3 | h3
          · have e : lowest q d (d :: r) = lowest q a (d :: r) := rfl
            rw [← e, h3]; exact List.mem_cons_self ..
          · exact h3
        exact hl _ this h
    · exact absurd h (hl _ h2)
  · rintro rfl; rfl
theorem seen_sub {a b : Cel} {r i : Nat} {c : Cel} (hc : c ∈ seen w h g q a b r i) : c ∈ Near a.1 a.2 ∧ Is w h g 0 c.1 c.2 := by
  unfold seen at hc
  rw [List.mem_filter] at hc
  have h2 := List.mem_of_mem_take hc.1
  unfold inside at h2
  rw [List.mem_filter] at h2
  refine ⟨h2.1, ?_⟩
  have := hc.2
  simp only [decide_eq_true_eq] at this
  exact this.1
theorem seen_step {a b : Cel} {r i : Nat} (hi : i < (inside w h (Near a.1 a.2)).length) : seen w h g q a b r (i + 1) = seen w h g q a b r i ++ (if roundP w h g b r (gC (inside w h (Near a.1 a.2)) i) then [gC (inside w h (Near a.1 a.2)) i] else []) := by
  unfold seen; rw [filter_snoc (gC_get hi)]; congr 1; simp only [decide_eq_true_eq]
theorem seen_all {a b : Cel} {r : Nat} : seen w h g q a b r (inside w h (Near a.1 a.2)).length = (kept (fun c => ¬ Is w h g 0 c.1 c.2) (Near a.1 a.2)).filter fun c => decide (¬ (r = 0 ∧ c.1 = b.1 ∧ c.2 = b.2)) := by
  unfold seen inside kept
  rw [List.take_length, List.filter_filter, List.filter_filter]
  apply List.filter_congr
  intro c _
  by_cases h1 : Is w h g 0 c.1 c.2
  · have h2 : Has w h c.1 c.2 := h1.1
    simp [roundP, h1, h2]
  · simp [roundP, h1]
theorem seen_no {a b : Cel} {r i : Nat} (hi : i < (inside w h (Near a.1 a.2)).length) (hp : ¬ roundP w h g b r (gC (inside w h (Near a.1 a.2)) i)) : lowest q a (seen w h g q a b r (i + 1)) = lowest q a (seen w h g q a b r i) := by
  rw [seen_step hi, if_neg hp, List.append_nil]
theorem seen_yes {a b : Cel} {r i : Nat} (hi : i < (inside w h (Near a.1 a.2)).length) (hp : roundP w h g b r (gC (inside w h (Near a.1 a.2)) i)) : lowest q a (seen w h g q a b r (i + 1)) =
    if lowest q a (seen w h g q a b r i) = a ∨ lv q (gC (inside w h (Near a.1 a.2)) i) < lv q (lowest q a (seen w h g q a b r i)) then gC (inside w h (Near a.1 a.2)) i else lowest q a (seen w h g q a b r i) := by
  rw [seen_step hi, if_pos hp, lowest_snoc]
  have := low_a (q := q) (a := a) (l := seen w h g q a b r i) fun c hc => near_ne (seen_sub hc).1
  simp only [this]
def roundR (w h : Int) (g q : Nat → Int) (a b : Cel) (r : Nat) : Cel := lowest q a (seen w h g q a b r (inside w h (Near a.1 a.2)).length)
theorem goes_rounds (a b : Cel) : goes w h g q a b = if roundR w h g q a b 0 = a then roundR w h g q a b 1 else roundR w h g q a b 0 := by
  unfold roundR
  rw [seen_all, seen_all]
  have hn : (Near a.1 a.2).Nodup := by
    simp [Near]; omega
  have hN : (kept (fun c => ¬ Is w h g 0 c.1 c.2) (Near a.1 a.2)).Nodup := hn.filter _
  have hne : ∀ c ∈ kept (fun c => ¬ Is w h g 0 c.1 c.2) (Near a.1 a.2), c ≠ a := fun c hc => near_ne (kept_mem hc).1
  unfold goes
  dsimp only
  generalize kept (fun c => ¬ Is w h g 0 c.1 c.2) (Near a.1 a.2) = N at hN hne ⊢
  have e1 : (N.filter fun c => decide (¬ (1 = 0 ∧ c.1 = b.1 ∧ c.2 = b.2))) = N := by simp
  have e0 : (N.filter fun c => decide (¬ (0 = 0 ∧ c.1 = b.1 ∧ c.2 = b.2))) = kept (fun c => c.1 = b.1 ∧ c.2 = b.2) N := by simp [kept]
  rw [e1, show (N.filter fun c => decide (¬ (0 = 0 ∧ c.1 = b.1 ∧ c.2 = b.2))) = kept (fun c => c.1 = b.1 ∧ c.2 = b.2) N from e0]
  have hk : ∀ c ∈ kept (fun c => c.1 = b.1 ∧ c.2 = b.2) N, c ≠ a := fun c hc => hne c (kept_mem hc).1
  have hk := low_a (q := q) hk
  simp only [hk]
  by_cases h1 : 1 < N.length
  · rw [if_pos h1, if_neg]
    intro hnil
    have hall : ∀ c ∈ N, c = b := by
      intro c hc
      apply Classical.byContradiction
      intro hcb
      have : c ∈ kept (fun c => c.1 = b.1 ∧ c.2 = b.2) N := by
        unfold kept
        rw [List.mem_filter]
        refine ⟨hc, ?_⟩
        simp only [decide_eq_true_eq]
        intro hh; exact hcb (Prod.ext hh.1 hh.2)
      rw [hnil] at this; cases this
    match N, hN, hall, h1 with
    | x :: y :: r, hN, hall, _ =>
      have hx := hall x (by simp)
      have hy := hall y (by simp)
      simp [hx, hy] at hN
  · rw [if_neg h1]
    match N, h1 with
    | [], _ => rfl
    | [c], _ =>
      by_cases hc : c.1 = b.1 ∧ c.2 = b.2
      · have : kept (fun c => c.1 = b.1 ∧ c.2 = b.2) [c] = [] := by simp [kept, hc]
        rw [this, if_pos rfl]
      · have : kept (fun c => c.1 = b.1 ∧ c.2 = b.2) [c] = [c] := by simp [kept]; omega
        rw [this, if_neg (by simp)]
    | x :: y :: r, h1 => simp at h1

theorem nightLev_length {t : Cel} : (nightLev q qs t).length = qs.length := by
  unfold nightLev; split
  · rw [List.length_set]
  · rfl
end Go.DM

/- Some nights, the night of a trap: the reference's side. -/
set_option linter.unusedSimpArgs false
set_option linter.unusedVariables false
set_option maxHeartbeats 4000000
namespace Go.DM
set_option linter.unusedSectionVars false
variable [Tok]
open Go.IntWalk
variable {w h : Int} {g : Nat → Int} {cs : List S} {q : Nat → Int} {qs : List S}

def molesCode (w h : Int) (g q : Nat → Int) (a : Cel) (n : Int) : Int := belowCode (LevOk w h g q) ((0 ≤ n ∧ n ≤ 60) ∧ Has w h a.1 a.2) (Is w h g 0 a.1 a.2)
def molesRes (w h : Int) (g q : Nat → Int) (qs : List S) (a : Cel) (n : Int) : Res :=
  if molesCode w h g q a n = 0 then ⟨[.agg ((Mole.mk q qs a a).after w h g n.toNat).qs, .own ((Mole.mk q qs a a).path w h g n.toNat).length 2 (encC ((Mole.mk q qs a a).path w h g n.toNat)), .s (.int .i64 0)], []⟩
  else ⟨[.agg (List.replicate 100 (.int .i8 0)), .own 0 2 [], .s (.int .i64 (molesCode w h g q a n))], []⟩

end Go.DM
