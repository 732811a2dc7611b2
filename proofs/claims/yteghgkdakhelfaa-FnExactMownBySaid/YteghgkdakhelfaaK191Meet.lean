/- Where two robots meet: both sides, the statement. -/
import Derived.Test.YteghgkdakhelfaaK191Battery
import Derived.Test.YteghgkdakhelfaaK191Rows
set_option linter.unusedSimpArgs false
set_option linter.unusedVariables false
set_option maxHeartbeats 4000000
namespace Go.DM
open Go.IntWalk
variable {w h : Int} {g : Nat → Int} {cs : List S}

theorem ix_inj (hs : w ≤ 10 ∧ h ≤ 10) {a b : Cel} (ha : Has w h a.1 a.2) (hb : Has w h b.1 b.2) (e : ix a = ix b) : a = b := by
  simp only [Has] at ha hb
  simp only [ix] at e
  exact Prod.ext (by omega) (by omega)
/-- Where steps come, they may go. -/
theorem bfs_ok {ok : Cel → Prop} [DecidablePred ok] (hs : w ≤ 10 ∧ h ≤ 10) (hok : ∀ e, ok e → Has w h e.1 e.2) {R : Cel → Prop} (hR : ∀ e, ok e → R e) : ∀ (n : Nat) {s : (Nat → Int) × List Cel}, (∀ e, Has w h e.1 e.2 → 0 ≤ s.1 (ix e) → R e) → ∀ e, Has w h e.1 e.2 → 0 ≤ bfs ok n s (ix e) → R e
  | 0, s, b, e, he, h0 => b e he h0
  | n + 1, (d, []), b, e, he, h0 => b e he h0
  | n + 1, (d, c :: r), b, e, he, h0 => by
    have key : ∀ (L : List Cel) (s : (Nat → Int) × List Cel), (∀ e, Has w h e.1 e.2 → 0 ≤ s.1 (ix e) → R e) → ∀ e, Has w h e.1 e.2 → 0 ≤ (L.foldl (visit ok c) s).1 (ix e) → R e := by
      intro L
      induction L with
      | nil => intro s b; exact b
      | cons a L ih =>
        intro s b
        refine ih _ ?_
        intro e he
        unfold visit
        split
        · rename_i hh
          intro h1
          simp only [gset] at h1
          split at h1
          · rename_i h2; rw [ix_inj hs he (hok a hh.1) h2]; exact hR a hh.1
          · exact b e he h1
        · exact b e he
    exact bfs_ok hs hok hR n (key (Near c.1 c.2) (d, r) b) e he h0
theorem steps_open (hs : w ≤ 10 ∧ h ≤ 10) {c : Cel} (hc : Opn w h g c.1 c.2) {e : Cel} (he : Has w h e.1 e.2) (h0 : 0 ≤ steps w h g c (ix e)) : Opn w h g e.1 e.2 := by
  refine bfs_ok (R := fun e => Opn w h g e.1 e.2) hs (fun e he => he.1) (fun e he => ⟨he.1, he.2.imp id fun h => h.2⟩) 100 ?_ e he h0
  intro a ha h1
  simp only [gset] at h1
  split at h1
  · rename_i h2; rw [ix_inj hs ha hc.1 h2]; exact hc
  · omega
def meet (X Y : Nat → Int) (s : Cel × Int) (c : Cel) : Cel × Int := if (0 ≤ X (ix c) ∧ 0 ≤ Y (ix c)) ∧ (s.2 < 0 ∨ max (X (ix c)) (Y (ix c)) < s.2) then (c, max (X (ix c)) (Y (ix c))) else s
theorem meet_yes {X Y : Nat → Int} {s : Cel × Int} {c : Cel} (hh : (0 ≤ X (ix c) ∧ 0 ≤ Y (ix c)) ∧ (s.2 < 0 ∨ max (X (ix c)) (Y (ix c)) < s.2)) : meet X Y s c = (c, max (X (ix c)) (Y (ix c))) := by unfold meet; rw [if_pos hh]
theorem meet_no {X Y : Nat → Int} {s : Cel × Int} {c : Cel} (hh : ¬ ((0 ≤ X (ix c) ∧ 0 ≤ Y (ix c)) ∧ (s.2 < 0 ∨ max (X (ix c)) (Y (ix c)) < s.2))) : meet X Y s c = s := by unfold meet; rw [if_neg hh]
def meetF (w h : Int) (g : Nat → Int) (a b : Cel) : Cel × Int := (allC w h).foldl (meet (steps w h g a) (steps w h g b)) ((0, 0), -1)
theorem meetF_open (hs : w ≤ 10 ∧ h ≤ 10) {a b : Cel} (ha : Opn w h g a.1 a.2) : (those w h fun c => Opn w h g c.1 c.2).foldl (meet (steps w h g a) (steps w h g b)) ((0, 0), -1) = meetF w h g a b := by
  unfold those meetF
  have key : ∀ (L : List Cel) (s : Cel × Int), (∀ e ∈ L, Has w h e.1 e.2) → (L.filter fun c => decide (Opn w h g c.1 c.2)).foldl (meet (steps w h g a) (steps w h g b)) s = L.foldl (meet (steps w h g a) (steps w h g b)) s := by
    intro L
    induction L with
    | nil => intro s _; rfl
    | cons e L ih =>
      intro s hL
      rw [List.filter_cons, List.foldl_cons]
      split
      · rw [List.foldl_cons]; exact ih _ fun e he => hL e (List.mem_cons_of_mem _ he)
      · rename_i hno
        rw [meet_no (s := s) (c := e) fun hh => hno (by simpa using steps_open hs ha (hL e (List.mem_cons_self ..)) hh.1.1)]
        exact ih _ fun e he => hL e (List.mem_cons_of_mem _ he)
  exact key _ _ fun e he => allC_mem he
def open2 (w h : Int) (g : Nat → Int) (a b : Cel) : Int := belowCode (LawnOk w h g) (Has w h a.1 a.2 ∧ Has w h b.1 b.2) (Opn w h g a.1 a.2 ∧ Opn w h g b.1 b.2)
theorem open2_impl (a b : Cel) : belowCode (LawnOk w h g) (∀ e ∈ ([a, b] : List Cel), Has w h e.1 e.2) (∀ e ∈ ([a, b] : List Cel), Opn w h g e.1 e.2) = open2 w h g a b := belowCode_congr Iff.rfl (by simp) (by simp)
theorem open2_spec (a b : Cel) : belowCode (LawnOk w h g) (true = true ∧ ∀ e ∈ ([a, b] : List Cel), Has w h e.1 e.2) (∀ e ∈ ([a, b] : List Cel), Opn w h g e.1 e.2) = open2 w h g a b := belowCode_congr Iff.rfl (by simp) (by simp)
theorem open2_ok {a b : Cel} (h0 : open2 w h g a b = 0) : (1 ≤ w ∧ w ≤ 10 ∧ 1 ≤ h ∧ h ≤ 10) ∧ Opn w h g a.1 a.2 ∧ Opn w h g b.1 b.2 := by
  obtain ⟨h1, h2, h3⟩ := belowCode_zero.1 h0
  exact ⟨⟨h1.1.1, h1.1.2, h1.2.1.1, h1.2.1.2⟩, h3⟩
def meetRes (w h : Int) (g : Nat → Int) (a b : Cel) : Res :=
  if open2 w h g a b = 0 then (if (meetF w h g a b).2 < 0 then ⟨[.agg [.int .i8 0, .int .i8 0], .s (.int .i64 0), .s (.int .i64 6)], []⟩ else ⟨[.agg [.int .i8 (meetF w h g a b).1.1, .int .i8 (meetF w h g a b).1.2], .s (.int .i64 (meetF w h g a b).2), .s (.int .i64 0)], []⟩)
  else ⟨[.agg [.int .i8 0, .int .i8 0], .s (.int .i64 0), .s (.int .i64 (open2 w h g a b))], []⟩
end Go.DM
