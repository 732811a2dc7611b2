/- A mole's night: the reference's side gives the same. -/
import Derived.Test.YteghgkdakhelfaaK193Loop
import Derived.Test.YteghgkdakhelfaaK193Beside
set_option linter.unusedSimpArgs false
set_option linter.unusedVariables false
set_option maxHeartbeats 4000000
namespace Go.DM
open Go.IntWalk
variable {w h : Int} {g : Nat → Int} {cs : List S} {q : Nat → Int} {qs : List S}

def roundP (w h : Int) (g : Nat → Int) (b : Cel) (r : Nat) (c : Cel) : Prop := Is w h g 0 c.1 c.2 ∧ ¬ (r = 0 ∧ c.1 = b.1 ∧ c.2 = b.2)
instance (w h : Int) (g : Nat → Int) (b : Cel) (r : Nat) : DecidablePred (roundP w h g b r) := fun c => inferInstanceAs (Decidable (_ ∧ _))
def seen (w h : Int) (g q : Nat → Int) (a b : Cel) (r i : Nat) : List Cel := ((inside w h (Near a.1 a.2)).take i).filter fun c => decide (roundP w h g b r c)
theorem lowest_snoc (q : Nat → Int) (a c : Cel) (l : List Cel) : lowest q a (l ++ [c]) = if l = [] ∨ lv q c < lv q (lowest q a l) then c else lowest q a l := by
  cases l with
  | nil => simp [lowest]
  | cons d r => simp [lowest, List.foldl_append]
theorem near_ne {a c : Cel} (h : c ∈ Near a.1 a.2) : c ≠ a := by
  intro e; subst e
  have : ∀ x y : Int, (x, y) ∉ Near x y := by intro x y; simp [Near]; omega
  exact this _ _ h
theorem low_a {a : Cel} {l : List Cel} (hl : ∀ c ∈ l, c ≠ a) : lowest q a l = a ↔ l = [] := by
  constructor
  · intro h
    rcases lowest_mem q a l with h2 | h2
    · cases l with
      | nil => rfl
      | cons d r =>
        exfalso
        have : lowest q a (d :: r) ∈ d :: r := by
          rcases lowest_mem q d (d :: r) with h3 | h3
          · have e : lowest q d (d :: r) = lowest q a (d :: r) := rfl
            rw [← e, h3]; exact List.mem_cons_self ..
          · exact h3
        exact hl _ this h
    · exact absurd h (hl _ h2)
  · rintro rfl; rfl
theorem seen_sub {a b : Cel} {r i : Nat} {c : Cel} (hc : c ∈ seen w h g q a b r i) : c ∈ Near a.1 a.2 ∧ Is w h g 0 c.1 c.2 := by
  unfold seen at hc
  rw [List.mem_filter] at hc
  have h2 := List.mem_of_mem_take hc.1
  unfold inside at h2
  rw [List.mem_filter] at h2
  refine ⟨h2.1, ?_⟩
  have := hc.2
  simp only [decide_eq_true_eq] at this
  exact this.1
theorem seen_step {a b : Cel} {r i : Nat} (hi : i < (inside w h (Near a.1 a.2)).length) : seen w h g q a b r (i + 1) = seen w h g q a b r i ++ (if roundP w h g b r (gC (inside w h (Near a.1 a.2)) i) then [gC (inside w h (Near a.1 a.2)) i] else []) := by
  unfold seen; rw [filter_snoc (gC_get hi)]; congr 1; simp only [decide_eq_true_eq]
theorem seen_all {a b : Cel} {r : Nat} : seen w h g q a b r (inside w h (Near a.1 a.2)).length = (kept (fun c => ¬ Is w h g 0 c.1 c.2) (Near a.1 a.2)).filter fun c => decide (¬ (r = 0 ∧ c.1 = b.1 ∧ c.2 = b.2)) := by
  unfold seen inside kept
  rw [List.take_length, List.filter_filter, List.filter_filter]
  apply List.filter_congr
  intro c _
  by_cases h1 : Is w h g 0 c.1 c.2
  · have h2 : Has w h c.1 c.2 := h1.1
    simp [roundP, h1, h2]
  · simp [roundP, h1]
theorem seen_no {a b : Cel} {r i : Nat} (hi : i < (inside w h (Near a.1 a.2)).length) (hp : ¬ roundP w h g b r (gC (inside w h (Near a.1 a.2)) i)) : lowest q a (seen w h g q a b r (i + 1)) = lowest q a (seen w h g q a b r i) := by
  rw [seen_step hi, if_neg hp, List.append_nil]
theorem seen_yes {a b : Cel} {r i : Nat} (hi : i < (inside w h (Near a.1 a.2)).length) (hp : roundP w h g b r (gC (inside w h (Near a.1 a.2)) i)) : lowest q a (seen w h g q a b r (i + 1)) =
    if lowest q a (seen w h g q a b r i) = a ∨ lv q (gC (inside w h (Near a.1 a.2)) i) < lv q (lowest q a (seen w h g q a b r i)) then gC (inside w h (Near a.1 a.2)) i else lowest q a (seen w h g q a b r i) := by
  rw [seen_step hi, if_pos hp, lowest_snoc]
  have := low_a (q := q) (a := a) (l := seen w h g q a b r i) fun c hc => near_ne (seen_sub hc).1
  simp only [this]
def roundR (w h : Int) (g q : Nat → Int) (a b : Cel) (r : Nat) : Cel := lowest q a (seen w h g q a b r (inside w h (Near a.1 a.2)).length)
theorem goes_rounds (a b : Cel) : goes w h g q a b = if roundR w h g q a b 0 = a then roundR w h g q a b 1 else roundR w h g q a b 0 := by
  unfold roundR
  rw [seen_all, seen_all]
  have hn : (Near a.1 a.2).Nodup := by
    simp [Near]; omega
  have hN : (kept (fun c => ¬ Is w h g 0 c.1 c.2) (Near a.1 a.2)).Nodup := hn.filter _
  have hne : ∀ c ∈ kept (fun c => ¬ Is w h g 0 c.1 c.2) (Near a.1 a.2), c ≠ a := fun c hc => near_ne (kept_mem hc).1
  unfold goes
  dsimp only
  generalize kept (fun c => ¬ Is w h g 0 c.1 c.2) (Near a.1 a.2) = N at hN hne ⊢
  have e1 : (N.filter fun c => decide (¬ (1 = 0 ∧ c.1 = b.1 ∧ c.2 = b.2))) = N := by simp
  have e0 : (N.filter fun c => decide (¬ (0 = 0 ∧ c.1 = b.1 ∧ c.2 = b.2))) = kept (fun c => c.1 = b.1 ∧ c.2 = b.2) N := by simp [kept]
  rw [e1, show (N.filter fun c => decide (¬ (0 = 0 ∧ c.1 = b.1 ∧ c.2 = b.2))) = kept (fun c => c.1 = b.1 ∧ c.2 = b.2) N from e0]
  have hk : ∀ c ∈ kept (fun c => c.1 = b.1 ∧ c.2 = b.2) N, c ≠ a := fun c hc => hne c (kept_mem hc).1
  have hk := low_a (q := q) hk
  simp only [hk]
  by_cases h1 : 1 < N.length
  · rw [if_pos h1, if_neg]
    intro hnil
    have hall : ∀ c ∈ N, c = b := by
      intro c hc
      apply Classical.byContradiction
      intro hcb
      have : c ∈ kept (fun c => c.1 = b.1 ∧ c.2 = b.2) N := by
        unfold kept
        rw [List.mem_filter]
        refine ⟨hc, ?_⟩
        simp only [decide_eq_true_eq]
        intro hh; exact hcb (Prod.ext hh.1 hh.2)
      rw [hnil] at this; cases this
    match N, hN, hall, h1 with
    | x :: y :: r, hN, hall, _ =>
      have hx := hall x (by simp)
      have hy := hall y (by simp)
      simp [hx, hy] at hN
  · rw [if_neg h1]
    match N, h1 with
    | [], _ => rfl
    | [c], _ =>
      by_cases hc : c.1 = b.1 ∧ c.2 = b.2
      · have : kept (fun c => c.1 = b.1 ∧ c.2 = b.2) [c] = [] := by simp [kept, hc]
        rw [this, if_pos rfl]
      · have : kept (fun c => c.1 = b.1 ∧ c.2 = b.2) [c] = [c] := by simp [kept]; omega
        rw [this, if_neg (by simp)]
    | x :: y :: r, h1 => simp at h1

theorem nightLev_length {t : Cel} : (nightLev q qs t).length = qs.length := by
  unfold nightLev; split
  · rw [List.length_set]
  · rfl
theorem nightS_gives (l : IsLawn w h g cs) (v : IsLev q qs) (hs : w ≤ 10 ∧ h ≤ 10) (a b : Cel) (ha : 0 ≤ a.1 ∧ a.1 < 10 ∧ 0 ≤ a.2 ∧ a.2 < 10) :
    Gives G 53 [.mp (moleS a b), ar cs, .mp qs] ⟨[], [moleS (goes w h g q a b) a, nightLev q qs (goes w h g q a b)]⟩ := by
  refine Gives.by rfl rfl (W.seq ?_)
  repeat' first | ((with_reducible apply WR.c_o (f := 85) (fn := Code.f85)); exact rfl; exact rfl; exact rfl; (first | exact rfl); (focus ((repeat' first | exact args_nil | apply args_d | exact toD_d rfl | exact rfl); done)); exact l01Beside_gives (by assumption) _ _ (by omega); (first | exact rfl)) | ((with_reducible apply WR.mv); exact rfl; exact rfl) | ((with_reducible apply WR.ld); exact rfl; exact rfl; exact rfl; (first | exact ld2)) | ((with_reducible apply WR.fa); exact rfl; exact rfl) | ((with_reducible apply WR.nc); exact rfl; exact rfl) | ((with_reducible apply WR.st); exact rfl; exact rfl; exact rfl; exact st2) | ((with_reducible apply WR.nil)) | (with_reducible refine andThen_n ?_) | (with_reducible refine W.seq ?_) | (with_reducible refine W.region ?_) | (with_reducible refine W.block ?_) | ((with_reducible apply WR.al); exact rfl; (first | exact rfl))
  have hL := inside_len (w := w) (h := h) (l := Near a.1 a.2)
  rw [show (Near a.1 a.2).length = 4 from rfl] at hL
  (refine (?_ : W _ (Code.loop _) _ _))
  (refine W.loopM [0, 1, 2, 6, 7] [0, 2] [] (fun zz : (Nat) × (Cel) => match zz with | (r, t) => (2 - r : Nat)) (fun zz : (Nat) × (Cel) => match zz with | (r, t) => (r ≤ 2 ∧ (r = 0 ∧ t = a ∨ r = 1 ∧ t = roundR w h g q a b 0 ∨ r = 2 ∧ roundR w h g q a b 0 = a ∧ t = roundR w h g q a b 1) : Prop)) (fun zz : (Nat) × (Cel) => match zz with | (r, t) => [(8, .a (.d (.s (.int .i64 (r : Nat)))))]) (fun zz : (Nat) × (Cel) => match zz with | (r, t) => [(7, .flat false ([.int .i8 t.1, .int .i8 t.2])), (15, .flat false (encC (inside w h (Near a.1 a.2))))]) (0, a) (⟨by omega, .inl ⟨rfl, rfl⟩⟩) ⟨rfl, trivial⟩ ⟨rfl, rfl, trivial⟩ trivial ?_)
  rintro ⟨r, t⟩ σ hP hN; dsimp only [setL, putL] at hP ⊢
  have hGo := goes_rounds (w := w) (h := h) (g := g) (q := q) a b
  have hin := goes_in (g := g) hs q (b := b) ha
  generalize hT : goes w h g q a b = T at hGo hin ⊢
  repeat' first | ((with_reducible apply WH.mv); exact rfl; exact rfl; exact rfl) | ((with_reducible apply WR.mv); exact rfl; exact rfl) | ((with_reducible apply WH.ld); exact rfl; exact rfl; exact rfl; (first | exact ld2); exact rfl) | ((with_reducible apply WH.lx); exact rfl; exact rfl; exact rfl) | ((with_reducible apply WH.off); exact rfl) | ((with_reducible apply WH.fa); exact rfl; exact rfl; exact rfl) | ((with_reducible apply WH.nc); exact rfl; exact rfl; exact rfl) | ((with_reducible apply WH.pk); exact rfl; exact rfl; exact rfl) | ((with_reducible apply WR.nil)) | (with_reducible refine andThen_n ?_) | (with_reducible refine andThen_x ?_) | (with_reducible refine inB_x ?_) | (with_reducible refine W.seq ?_) | (with_reducible refine W.region ?_) | (with_reducible refine W.skip ?_) | (with_reducible refine W.exit ?_) | (with_reducible refine W.block ?_) | ((with_reducible apply W.condT); exact rfl) | ((with_reducible apply W.condF); exact rfl) | ((with_reducible apply WH.lss); exact rfl; exact rfl; exact rfl) | ((with_reducible apply WH.ec); exact rfl; exact rfl; exact rfl) | ((with_reducible apply WH.nil)) | (with_reducible refine W.draw ?_) | (intro hb; try (exfalso; omega))
  · have hr : r < 2 := by omega
    have hta : t = a := Prod.ext (by assumption : t.1 = a.1 ∧ t.2 = a.2).1 (by assumption : t.1 = a.1 ∧ t.2 = a.2).2
    (refine (?_ : W _ (Code.loop _) _ _))
    (refine W.loopM [0, 1, 2, 6, 7, 8] [0, 2] [] (fun zz : (Nat) × (Cel) => match zz with | (i, u) => ((inside w h (Near a.1 a.2)).length - i : Nat)) (fun zz : (Nat) × (Cel) => match zz with | (i, u) => (i ≤ (inside w h (Near a.1 a.2)).length ∧ u = lowest q a (seen w h g q a b r i) ∧ (0 ≤ u.1 ∧ u.1 < 10 ∧ 0 ≤ u.2 ∧ u.2 < 10) : Prop)) (fun zz : (Nat) × (Cel) => match zz with | (i, u) => [(9, .a (.d (.s (.int .i64 (i : Nat)))))]) (fun zz : (Nat) × (Cel) => match zz with | (i, u) => [(7, .flat false ([.int .i8 u.1, .int .i8 u.2])), (15, .flat false (encC (inside w h (Near a.1 a.2))))]) (0, t) (⟨by omega, by rw [hta]; rfl, by rw [hta]; exact ha⟩) ⟨rfl, trivial⟩ ⟨rfl, rfl, trivial⟩ trivial ?_)
    rintro ⟨i, u⟩ σ hP hN; dsimp only [setL, putL] at hP ⊢
    obtain ⟨hi, hu, hub⟩ := hP
    repeat' first | ((with_reducible apply WH.mv); exact rfl; exact rfl; exact rfl) | ((with_reducible apply WR.mv); exact rfl; exact rfl) | ((with_reducible apply WH.ld); exact rfl; exact rfl; exact rfl; (first | exact ldC (by first | omega)); exact rfl) | ((with_reducible apply WR.nil)) | (with_reducible refine andThen_n ?_) | (with_reducible refine andThen_x ?_) | (with_reducible refine inB_n ?_) | (with_reducible refine inB_x ?_) | (with_reducible refine W.seq ?_) | (with_reducible refine W.region ?_) | (with_reducible refine W.skip ?_) | (with_reducible refine W.exit ?_) | (with_reducible refine W.block ?_) | ((with_reducible apply W.condT); exact rfl) | ((with_reducible apply W.condF); exact rfl) | ((with_reducible apply WH.isn); exact rfl; exact rfl; exact rfl; omega; exact rfl) | (with_reducible refine W.draw ?_) | (intro hb; try (exfalso; omega)) | ((with_reducible apply WR.ad); exact rfl; exact rfl; exact rfl; (first | exact i64_in _ (by omega))) | ((with_reducible apply WR.lss); exact rfl; exact rfl; exact rfl) | ((with_reducible apply WR.le); exact rfl; exact rfl)
    · have hi : i < (inside w h (Near a.1 a.2)).length := by omega
      have hm := gC_mem hi
      have hH : Has w h (gC (inside w h (Near a.1 a.2)) i).1 (gC (inside w h (Near a.1 a.2)) i).2 := by
        unfold inside at hm ⊢; rw [List.mem_filter] at hm; simpa using hm.2
      have hno := seen_no (q := q) (r := r) (b := b) (g := g) hi
      have hyes := seen_yes (q := q) (r := r) (b := b) (g := g) hi
      repeat' first | ((with_reducible apply WH.c_p (f := 51) (fn := Code.f51)); exact rfl; exact rfl; exact rfl; (first | exact rfl); (focus ((repeat' first | exact args_nil | apply args_d | exact toD_d rfl | exact toD_ptr rfl rfl | exact rfl); done)); exact l01Grass_gives (by assumption) _ _ (by omega) (by omega)) | ((with_reducible apply WH.c_s (f := 93) (fn := Code.f93)); exact rfl; exact rfl; exact rfl; (first | exact rfl); (focus ((repeat' first | exact args_nil | apply args_d | exact toD_d rfl | exact toD_ptr rfl rfl | exact rfl); done)); exact l06At_gives (by assumption) _ _ (by omega); exact rfl) | ((with_reducible apply WH.mv); exact rfl; exact rfl; exact rfl) | ((with_reducible apply WR.mv); exact rfl; exact rfl) | ((with_reducible apply WH.ld); exact rfl; exact rfl; exact rfl; (first | exact ld2 | exact ldC (by first | omega)); exact rfl) | ((with_reducible apply WH.off); exact rfl) | ((with_reducible apply WH.fa); exact rfl; exact rfl; exact rfl) | ((with_reducible apply WH.nc); exact rfl; exact rfl; exact rfl) | ((with_reducible apply WR.ld); exact rfl; exact rfl; exact rfl; (first | exact ld2 | exact ldC (by first | omega))) | ((with_reducible apply WR.st); exact rfl; exact rfl; exact rfl; exact st2) | ((with_reducible apply WH.pk); exact rfl; exact rfl; exact rfl) | ((with_reducible apply WR.nil)) | (with_reducible refine andThen_n ?_) | (with_reducible refine andThen_x ?_) | (with_reducible refine inB_n ?_) | (with_reducible refine inB_x ?_) | (with_reducible refine W.seq ?_) | (with_reducible refine W.region ?_) | (with_reducible refine W.skip ?_) | (with_reducible refine W.exit ?_) | ((with_reducible apply W.condT); exact rfl) | ((with_reducible apply W.condF); exact rfl) | ((with_reducible apply WH.lss); exact rfl; exact rfl; exact rfl) | ((with_reducible apply WH.ec); exact rfl; exact rfl; exact rfl) | ((with_reducible apply WH.isn); exact rfl; exact rfl; exact rfl; omega; exact rfl) | ((with_reducible apply WH.nil)) | (with_reducible refine W.draw ?_) | (intro hb; try (exfalso; omega)) | ((with_reducible apply WR.ad); exact rfl; exact rfl; exact rfl; (first | exact i64_in _ (by omega))) | ((with_reducible apply WR.isn); exact rfl; exact rfl; exact rfl; omega) | ((with_reducible apply WH.eql); exact rfl; exact rfl; exact rfl) | ((with_reducible apply WH.un); exact rfl; exact rfl; exact rfl)
      all_goals first
        | ((refine W.nxt (i + 1, u) (by first | omega | (dsimp only; omega)) ?_ ⟨rfl, trivial⟩ ⟨rfl, rfl, trivial⟩ ⟨rfl, rfl, rfl, rfl, rfl, rfl, trivial⟩ ⟨rfl, rfl, trivial⟩ trivial); (try dsimp only); refine ⟨by omega, ?_, hub⟩)
        | ((refine W.nxt (i + 1, gC (inside w h (Near a.1 a.2)) i) (by first | omega | (dsimp only; omega)) ?_ ⟨rfl, trivial⟩ ⟨rfl, rfl, trivial⟩ ⟨rfl, rfl, rfl, rfl, rfl, rfl, trivial⟩ ⟨rfl, rfl, trivial⟩ trivial); (try dsimp only); refine ⟨by omega, ?_, by omega⟩)
      all_goals first
        | exact hu.trans (hno (by rintro ⟨h1, h2⟩; first | contradiction | exact h2 ⟨by omega, by assumption⟩)).symm
        | (rw [hyes ⟨by assumption, fun h2 => by first | exact absurd h2.2 (by assumption) | omega⟩, ← hu]
           first
             | rw [if_pos (.inl (Prod.ext (by assumption : u.1 = a.1 ∧ u.2 = a.2).1 (by assumption : u.1 = a.1 ∧ u.2 = a.2).2))]
             | rw [if_pos (.inr (by assumption : lv q (gC (inside w h (Near a.1 a.2)) i) < lv q u))]
             | rw [if_neg (by rintro (h2 | h2); exact absurd (show u.1 = a.1 ∧ u.2 = a.2 by rw [h2]; exact ⟨rfl, rfl⟩) (by assumption); exact absurd h2 (by assumption))])
    · have hil : i = (inside w h (Near a.1 a.2)).length := by omega
      (refine W.nxt (r + 1, u) (by first | omega | (dsimp only; omega)) ?_ ⟨rfl, trivial⟩ ⟨rfl, rfl, trivial⟩ ⟨rfl, rfl, rfl, rfl, rfl, trivial⟩ ⟨rfl, rfl, trivial⟩ trivial); (try dsimp only)
      refine ⟨by omega, ?_⟩
      have hu' : u = roundR w h g q a b r := by rw [hu, hil]; rfl
      have : r = 0 ∨ r = 1 := by omega
      rcases this with rfl | rfl
      · exact .inr (.inl ⟨rfl, hu'⟩)
      · rcases hP with ⟨_, hP⟩
        rcases hP with ⟨h1, _⟩ | ⟨_, h1⟩ | ⟨h1, _⟩
        · cases h1
        · exact .inr (.inr ⟨rfl, by rw [← h1, hta], hu'⟩)
        · cases h1
  all_goals
    have htT : t = T := by
      rcases hP with ⟨h0, ⟨h1, h2⟩ | ⟨h1, h2⟩ | ⟨h1, h2, h3⟩⟩
      · exfalso
        first
          | omega
          | exact absurd (show t.1 = a.1 ∧ t.2 = a.2 by rw [h2]; exact ⟨rfl, rfl⟩) (by assumption)
      · first
          | (exfalso; omega)
          | rw [hGo, if_neg (fun e => absurd (show t.1 = a.1 ∧ t.2 = a.2 by rw [h2, e]; exact ⟨rfl, rfl⟩) (by assumption)), h2]
      · rw [hGo, if_pos h2, h3]
    subst htT
    clear hP hGo hN
    have hq := v.cb (10 * t.2.toNat + t.1.toNat) (by omega)
    repeat' first | ((with_reducible apply WH.mv); exact rfl; exact rfl; exact rfl) | ((with_reducible apply WR.mv); exact rfl; exact rfl) | ((with_reducible apply WH.ld); exact rfl; exact rfl; exact rfl; (first | exact ld2 | exact lev_c (by assumption) (by omega)); exact rfl) | ((with_reducible apply WH.lx); exact rfl; exact rfl; exact rfl) | ((with_reducible apply WH.fa); exact rfl; exact rfl; exact rfl) | ((with_reducible apply WH.ia); exact rfl; exact rfl; exact rfl; omega; exact rfl) | ((with_reducible apply WH.nc); exact rfl; exact rfl; exact rfl) | ((with_reducible apply WR.ld); exact rfl; exact rfl; exact rfl; (first | exact ld2 | exact lev_c (by assumption) (by omega))) | ((with_reducible apply WR.fa); exact rfl; exact rfl) | ((with_reducible apply WR.nc); exact rfl; exact rfl) | ((with_reducible apply WR.st); exact rfl; exact rfl; exact rfl; exact stM0) | ((with_reducible apply WR.st); exact rfl; exact rfl; exact rfl; exact stM2) | ((with_reducible apply WR.nil)) | (with_reducible refine andThen_n ?_) | (with_reducible refine W.seq ?_) | (with_reducible refine W.region ?_) | (with_reducible refine W.skip ?_) | ((with_reducible apply W.condT); exact rfl) | ((with_reducible apply W.condF); exact rfl) | ((with_reducible apply Done.f); (intro hh hh2; exact (nomatch hh2)); (focus ((repeat' first | exact all_nil | exact rfl); done)); (focus ((repeat' first | exact all_nil | exact rfl); done)); exact rfl; (focus ((repeat' first | exact outs_nil | apply outs_d | (apply outs_mp; exact rfl; exact (by first | exact IsLev.len (by assumption) | (simp only [grid_len, gridB_len, encC_length, encI_length, List.length_set]; done) | exact rfl)) | exact rfl); done))) | ((with_reducible apply WH.lss); exact rfl; exact rfl; exact rfl) | ((with_reducible apply WH.nil)) | (with_reducible refine W.draw ?_) | (intro hb; try (exfalso; omega)) | ((with_reducible apply WH.ad); exact rfl; exact rfl; exact rfl; (first | exact i8_in _ (by omega))) | ((with_reducible apply WH.st); exact rfl; exact rfl; exact rfl; exact storeL (by assumption) (by omega); exact rfl; exact rfl)
  all_goals
    unfold nightLev
    first
      | rw [if_pos (by assumption : lv q t < 9)]
      | rw [if_neg (by assumption : ¬ lv q t < 9)]
    rfl
end Go.DM
