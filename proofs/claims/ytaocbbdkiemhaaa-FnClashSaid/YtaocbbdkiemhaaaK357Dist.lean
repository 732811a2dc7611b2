/- Sides of cells; the border: both sides. -/
import Derived.Test.YtaocbbdkiemhaaaK357Steps
import Derived.Test.YtaocbbdkiemhaaaK357Trap
import Derived.Test.YtaocbbdkiemhaaaK357Open2
import Derived.Test.YtaocbbdkiemhaaaK357Meet
set_option linter.unusedSimpArgs false
set_option linter.unusedVariables false
set_option maxHeartbeats 4000000
namespace Go.DM
set_option linter.unusedSectionVars false
variable [Tok]
open Go.IntWalk
variable {w h : Int} {g : Nat → Int} {cs : List S}

def sideOf (w h : Int) (g : Nat → Int) (e : Cel) : Nat := if Has w h e.1 e.2 then (g (ix e)).toNat else 4
def sideStep (w h : Int) (g : Nat → Int) (f : Nat → Int) (e : Cel) : Nat → Int := gset f (sideOf w h g e) (f (sideOf w h g e) + 1)
/-- The sides of a cell, by kinds; kind 4: the lawn's end. -/
def sides (w h : Int) (g : Nat → Int) (c : Cel) : Nat → Int := (Near c.1 c.2).foldl (sideStep w h g) fun _ => 0
def bordP (w h : Int) (g : Nat → Int) (c : Cel) : Prop := Is w h g 0 c.1 c.2 ∧ sides w h g c 0 < 4
instance (w h : Int) (g : Nat → Int) : DecidablePred (bordP w h g) := fun c => inferInstanceAs (Decidable (_ ∧ _))
/-- The border. -/
def border (w h : Int) (g : Nat → Int) (b : Bool) : List Cel := (ofKind w h g 0).filter fun c => decide (sides w h g c 0 < 4) == b
end Go.DM

/- The way home: both sides, the statement. -/
set_option linter.unusedSimpArgs false
set_option linter.unusedVariables false
set_option maxHeartbeats 4000000
namespace Go.DM
set_option linter.unusedSectionVars false
variable [Tok]
open Go.IntWalk
variable {w h : Int} {g : Nat → Int} {cs : List S}

theorem visit_keep {ok : Cel → Prop} [DecidablePred ok] {c : Cel} {k : Nat} : ∀ (L : List Cel) (s : (Nat → Int) × List Cel), 0 ≤ s.1 k → (L.foldl (visit ok c) s).1 k = s.1 k
  | [], s, _ => rfl
  | e :: r, s, h0 => by
    have h1 : (visit ok c s e).1 k = s.1 k := by
      unfold visit; split
      · rename_i hh; simp only [gset]; rw [if_neg]; intro e2; rw [e2] at h0; omega
      · rfl
    rw [List.foldl_cons, visit_keep r _ (by omega), h1]
theorem bfs_keep {ok : Cel → Prop} [DecidablePred ok] {k : Nat} : ∀ (n : Nat) (s : (Nat → Int) × List Cel), 0 ≤ s.1 k → bfs ok n s k = s.1 k
  | 0, s, _ => rfl
  | n + 1, (d, []), _ => rfl
  | n + 1, (d, c :: r), h0 => by
    have h1 := visit_keep (ok := ok) (c := c) (k := k) (Near c.1 c.2) (d, r) h0
    show bfs ok n _ k = d k
    rw [bfs_keep n _ (by rw [h1]; exact h0), h1]
/-- Each cell to which steps come, but for the first one, is beside one to which one step less leads. -/
def Pred (w h : Int) (c0 : Cel) (d : Nat → Int) : Prop := ∀ e, Has w h e.1 e.2 → 0 ≤ d (ix e) → e = c0 ∨ ∃ p ∈ Near e.1 e.2, Has w h p.1 p.2 ∧ 0 ≤ d (ix p) ∧ d (ix e) = d (ix p) + 1
def nextP (w h : Int) (d : Nat → Int) (c e : Cel) : Prop := Has w h e.1 e.2 ∧ d (ix e) = d (ix c) - 1
instance (w h : Int) (d : Nat → Int) (c : Cel) : DecidablePred (nextP w h d c) := fun e => inferInstanceAs (Decidable (_ ∧ _))
/-- What is true of steps to a home. -/
structure Homes (w h : Int) (g : Nat → Int) (c0 : Cel) (d : Nat → Int) : Prop where
  home : d (ix c0) = 0
  pred : Pred w h c0 d
  b : ∀ k, -1 ≤ d k ∧ d k ≤ 100
  op : ∀ e, Has w h e.1 e.2 → 0 ≤ d (ix e) → Opn w h g e.1 e.2
theorem Homes.next {c0 c : Cel} {d : Nat → Int} (H : Homes w h g c0 d) (hc : Has w h c.1 c.2) (h0 : 0 ≤ d (ix c)) (hne : c ≠ c0) : 1 ≤ d (ix c) ∧ ∃ p ∈ Near c.1 c.2, nextP w h d c p := by
  rcases H.pred c hc h0 with h1 | ⟨p, hp, h1, h2, h3⟩
  · exact absurd h1 hne
  · exact ⟨by omega, p, hp, h1, by omega⟩
end Go.DM

/- How deep a cell lies: both sides, the statement. -/
set_option linter.unusedSimpArgs false
set_option linter.unusedVariables false
set_option maxHeartbeats 4000000
namespace Go.DM
set_option linter.unusedSectionVars false
variable [Tok]
open Go.IntWalk
variable {w h : Int} {g : Nat → Int} {cs : List S}

theorem has_mem {c : Cel} (hc : Has w h c.1 c.2) : c ∈ allC w h := by
  unfold allC cellsTo
  rw [List.mem_map]
  have hW : c.1.toNat < w.toNat := by simp only [Has] at hc; omega
  refine ⟨c.2.toNat * w.toNat + c.1.toNat, ?_, ?_⟩
  · rw [List.mem_range]
    have h1 : (c.2.toNat + 1) * w.toNat ≤ h.toNat * w.toNat := Nat.mul_le_mul_right _ (by simp only [Has] at hc; omega)
    rw [Nat.succ_mul] at h1
    rw [Nat.mul_comm w.toNat]
    omega
  · have h1 := div_idx (y := c.2.toNat) hW
    rw [h1.1, h1.2]
    simp only [Has] at hc
    exact Prod.ext (by simp only; omega) (by simp only; omega)
/-! Steps come to all cells to which they can. -/
theorem visit_sub {ok : Cel → Prop} [DecidablePred ok] {c a : Cel} : ∀ (L : List Cel) (s : (Nat → Int) × List Cel), a ∈ s.2 → a ∈ (L.foldl (visit ok c) s).2
  | [], s, ha => ha
  | e :: r, s, ha => by
    rw [List.foldl_cons]
    refine visit_sub r _ ?_
    unfold visit; split
    · exact List.mem_append_left _ ha
    · exact ha
theorem visit_new {ok : Cel → Prop} [DecidablePred ok] (hs : w ≤ 10 ∧ h ≤ 10) (hok : ∀ e, ok e → Has w h e.1 e.2) {c a : Cel} (ha : Has w h a.1 a.2) : ∀ (L : List Cel) (s : (Nat → Int) × List Cel), 0 ≤ (L.foldl (visit ok c) s).1 (ix a) → 0 ≤ s.1 (ix a) ∨ a ∈ (L.foldl (visit ok c) s).2
  | [], s, h0 => .inl h0
  | e :: r, s, h0 => by
    rw [List.foldl_cons] at h0 ⊢
    rcases visit_new hs hok ha r _ h0 with h1 | h1
    · unfold visit at h1
      split at h1
      · rename_i hh
        simp only [gset] at h1
        split at h1
        · rename_i h2
          have h3 := ix_inj hs ha (hok e hh.1) h2
          refine .inr (visit_sub r _ ?_)
          unfold visit; rw [if_pos hh, h3]
          exact List.mem_append_right _ (List.mem_singleton.2 rfl)
        · exact .inl h1
      · exact .inl h1
    · exact .inr h1
theorem visit_all {ok : Cel → Prop} [DecidablePred ok] {c e : Cel} : ∀ (L : List Cel) (s : (Nat → Int) × List Cel), 0 ≤ s.1 (ix c) → e ∈ L → ok e → 0 ≤ (L.foldl (visit ok c) s).1 (ix e)
  | [], s, _, he, _ => by cases he
  | a :: r, s, h0, he, hk => by
    have h1 := visit_keep (ok := ok) (c := c) (k := ix c) [a] s h0
    simp only [List.foldl_cons, List.foldl_nil] at h1
    rw [List.foldl_cons]
    rcases List.mem_cons.1 he with rfl | he
    · have h2 : 0 ≤ (visit ok c s e).1 (ix e) := by
        unfold visit; split
        · simp only [gset, if_true]; omega
        · rename_i hh
          exact Int.not_lt.1 fun h3 => hh ⟨hk, h3⟩
      rw [visit_keep r _ h2]; exact h2
    · exact visit_all r _ (by omega) he hk
theorem visit_count {ok : Cel → Prop} [DecidablePred ok] (hs : w ≤ 10 ∧ h ≤ 10) (hok : ∀ e, ok e → Has w h e.1 e.2) {c : Cel} : ∀ (L : List Cel) {s : (Nat → Int) × List Cel}, BInv w h s.1 (c :: s.2) → unk (L.foldl (visit ok c) s).1 + (L.foldl (visit ok c) s).2.length = unk s.1 + s.2.length
  | [], s, _ => rfl
  | a :: r, s, b => by
    rw [List.foldl_cons, visit_count hs hok r (visit_inv hs hok b)]
    unfold visit; split
    · rename_i hh
      have h1 := (b.push hs (List.mem_cons_self ..) (hok a hh.1) hh.2).2
      rw [List.length_append, List.length_singleton]
      simp only at h1 ⊢
      omega
    · rfl
def Closed (w h : Int) (ok : Cel → Prop) (d : Nat → Int) (r : List Cel) : Prop := ∀ c, Has w h c.1 c.2 → 0 ≤ d (ix c) → c ∈ r ∨ ∀ e ∈ Near c.1 c.2, ok e → 0 ≤ d (ix e)
theorem bfs_closed {ok : Cel → Prop} [DecidablePred ok] (hs : w ≤ 10 ∧ h ≤ 10) (hok : ∀ e, ok e → Has w h e.1 e.2) : ∀ (n : Nat) {s : (Nat → Int) × List Cel}, BInv w h s.1 s.2 → unk s.1 + s.2.length ≤ n → Closed w h ok s.1 s.2 → Closed w h ok (bfs ok n s) []
  | 0, (d, []), _, _, b => b
  | 0, (d, c :: r), _, hn, b => by simp at hn
  | n + 1, (d, []), _, _, b => b
  | n + 1, (d, c :: r), i, hn, b => by
    have hc := i.q c (List.mem_cons_self ..)
    have h1 := fold_inv hs hok (Near c.1 c.2) (s := (d, r)) i
    have h2 := visit_count hs hok (Near c.1 c.2) (s := (d, r)) i
    refine bfs_closed hs hok n ⟨h1.lo, h1.hi, fun a ha => h1.q a (List.mem_cons_of_mem _ ha), by have := h1.len; rw [List.length_cons] at this; omega⟩ (by simp only [List.length_cons] at hn; simp only at h2; omega) ?_
    intro a ha h0
    by_cases hac : a = c
    · subst hac
      exact .inr fun e he hk => visit_all _ _ hc.2 he hk
    · rcases visit_new hs hok ha (Near c.1 c.2) (d, r) h0 with h3 | h3
      · rcases b a ha h3 with h4 | h4
        · rcases List.mem_cons.1 h4 with h5 | h5
          · exact absurd h5 hac
          · exact .inl (visit_sub _ _ h5)
        · refine .inr fun e he hk => ?_
          have h5 := h4 e he hk
          rw [visit_keep (Near c.1 c.2) (d, r) h5]; exact h5
      · exact .inl h3
theorem far_closed {ok : Cel → Prop} [DecidablePred ok] (hs : w ≤ 10 ∧ h ≤ 10) (hok : ∀ e, ok e → Has w h e.1 e.2) {c : Cel} (hc : Has w h c.1 c.2) : Closed w h ok (far ok c) [] := by
  have hf := BInv.first hs hc
  refine bfs_closed hs hok 100 hf.1 (by rw [hf.2]; simp) ?_
  intro a ha h0
  simp only [gset] at h0
  split at h0
  · rename_i h2; exact .inl (List.mem_singleton.2 (ix_inj hs ha hc h2))
  · omega

end Go.DM

/- The steps that are found are the least ones. -/
set_option linter.unusedSimpArgs false
set_option linter.unusedVariables false
set_option maxHeartbeats 4000000
namespace Go.DM
set_option linter.unusedSectionVars false
variable [Tok]
open Go.IntWalk
variable {w h : Int} {g : Nat → Int} {cs : List S}

section
variable {ok : Cel → Prop} [DecidablePred ok]
/-- Cells beside that have been found are at most one step farther. -/
def Beside1 (w h : Int) (ok : Cel → Prop) (d : Nat → Int) (a : Cel) : Prop := ∀ e ∈ Near a.1 a.2, ok e → 0 ≤ d (ix e) ∧ d (ix e) ≤ d (ix a) + 1
/-- What holds while the cells beside c are looked at. -/
structure MidL (w h : Int) (ok : Cel → Prop) (c : Cel) (P : List Cel) (d : Nat → Int) (qu : List Cel) : Prop where
  hc : Has w h c.1 c.2 ∧ 0 ≤ d (ix c)
  hq : ∀ a ∈ qu, (Has w h a.1 a.2 ∧ 0 ≤ d (ix a)) ∧ d (ix c) ≤ d (ix a)
  sorted : qu.Pairwise fun a b => d (ix a) ≤ d (ix b)
  top : ∀ a, Has w h a.1 a.2 → 0 ≤ d (ix a) → d (ix a) ≤ d (ix c) + 1
  all : ∀ a, Has w h a.1 a.2 → 0 ≤ d (ix a) → a ∈ qu ∨ a = c ∨ Beside1 w h ok d a
  proc : ∀ e ∈ P, ok e → 0 ≤ d (ix e)
theorem MidL.visit (hs : w ≤ 10 ∧ h ≤ 10) (hok : ∀ e, ok e → Has w h e.1 e.2) {c e : Cel} {P : List Cel} {d : Nat → Int} {qu : List Cel} (m : MidL w h ok c P d qu) :
    MidL w h ok c (P ++ [e]) (visit ok c (d, qu) e).1 (visit ok c (d, qu) e).2 := by
  unfold DM.visit
  split
  · rename_i hh
    obtain ⟨he, hd⟩ := hh
    simp only at hd
    have hHe := hok e he
    have keep : ∀ a, 0 ≤ d (ix a) → gset d (ix e) (d (ix c) + 1) (ix a) = d (ix a) := fun a ha => by
      simp only [gset]; rw [if_neg (fun k => by rw [k] at ha; omega)]
    have new : gset d (ix e) (d (ix c) + 1) (ix e) = d (ix c) + 1 := by simp [gset]
    have hc := m.hc
    have old : ∀ a, Has w h a.1 a.2 → 0 ≤ gset d (ix e) (d (ix c) + 1) (ix a) → a = e ∨ 0 ≤ d (ix a) := fun a hHa ha => by
      simp only [gset] at ha
      split at ha
      · rename_i k; exact .inl (ix_inj hs hHa hHe k)
      · exact .inr ha
    show MidL w h ok c (P ++ [e]) (gset d (ix e) (d (ix c) + 1)) (qu ++ [e])
    refine ⟨⟨hc.1, by rw [keep c hc.2]; exact hc.2⟩, fun a ha => ?_, ?_, fun a hHa ha => ?_, fun a hHa ha => ?_, fun x hx hxo => ?_⟩
    · rw [keep c hc.2]
      rcases List.mem_append.1 ha with ha | ha
      · have := m.hq a ha
        rw [keep a this.1.2]; exact this
      · rw [List.mem_singleton] at ha; subst ha
        rw [new]
        exact ⟨⟨hHe, by omega⟩, by omega⟩
    · rw [List.pairwise_append]
      refine ⟨?_, List.pairwise_singleton _ _, fun a ha b hb => ?_⟩
      · refine List.Pairwise.imp_of_mem ?_ m.sorted
        intro a b ha hb hab
        rw [keep a (m.hq a ha).1.2, keep b (m.hq b hb).1.2]; exact hab
      · rw [List.mem_singleton] at hb; subst hb
        rw [keep a (m.hq a ha).1.2, new]
        exact m.top a (m.hq a ha).1.1 (m.hq a ha).1.2
    · rw [keep c hc.2]
      rcases old a hHa ha with rfl | h0
      · rw [new]; omega
      · rw [keep a h0]; exact m.top a hHa h0
    · rcases old a hHa ha with rfl | h0
      · exact .inl (List.mem_append_right _ (List.mem_singleton_self _))
      · rcases m.all a hHa h0 with k | k | k
        · exact .inl (List.mem_append_left _ k)
        · exact .inr (.inl k)
        · refine .inr (.inr fun x hx hxo => ?_)
          have := k x hx hxo
          rw [keep x this.1, keep a h0]; exact this
    · rcases List.mem_append.1 hx with hx | hx
      · have := m.proc x hx hxo
        rw [keep x this]; exact this
      · rw [List.mem_singleton] at hx; subst hx
        rw [new]; omega
  · rename_i hh
    show MidL w h ok c (P ++ [e]) d qu
    refine ⟨m.hc, m.hq, m.sorted, m.top, m.all, fun x hx hxo => ?_⟩
    rcases List.mem_append.1 hx with hx | hx
    · exact m.proc x hx hxo
    · rw [List.mem_singleton] at hx; subst hx
      have : ¬ d (ix x) < 0 := fun k => hh ⟨hxo, k⟩
      show 0 ≤ d (ix x)
      omega
/-- What holds ahead of each cell of the queue. -/
structure LayL (w h : Int) (ok : Cel → Prop) (d : Nat → Int) (qu : List Cel) : Prop where
  hq : ∀ a ∈ qu, Has w h a.1 a.2 ∧ 0 ≤ d (ix a)
  sorted : qu.Pairwise fun a b => d (ix a) ≤ d (ix b)
  top : ∀ a, Has w h a.1 a.2 → 0 ≤ d (ix a) → ∀ b ∈ qu, d (ix a) ≤ d (ix b) + 1
  all : ∀ a, Has w h a.1 a.2 → 0 ≤ d (ix a) → a ∈ qu ∨ Beside1 w h ok d a
theorem LayL.pop (hs : w ≤ 10 ∧ h ≤ 10) (hok : ∀ e, ok e → Has w h e.1 e.2) {c : Cel} {d : Nat → Int} {r : List Cel} (m : LayL w h ok d (c :: r)) :
    LayL w h ok ((Near c.1 c.2).foldl (visit ok c) (d, r)).1 ((Near c.1 c.2).foldl (visit ok c) (d, r)).2 := by
  have h0 : MidL w h ok c [] d r := by
    have hc := m.hq c (List.mem_cons_self ..)
    have hp := List.pairwise_cons.1 m.sorted
    refine ⟨hc, fun a ha => ⟨m.hq a (List.mem_cons_of_mem _ ha), hp.1 a ha⟩, hp.2, fun a hHa ha => m.top a hHa ha c (List.mem_cons_self ..), fun a hHa ha => ?_, fun e he => by cases he⟩
    rcases m.all a hHa ha with k | k
    · rcases List.mem_cons.1 k with k | k
      · exact .inr (.inl k)
      · exact .inl k
    · exact .inr (.inr k)
  have key : ∀ (L P : List Cel) (s : (Nat → Int) × List Cel), MidL w h ok c P s.1 s.2 → MidL w h ok c (P ++ L) (L.foldl (visit ok c) s).1 (L.foldl (visit ok c) s).2 := by
    intro L
    induction L with
    | nil => intro P s m; simpa using m
    | cons e L ih =>
      intro P s m
      have := ih (P ++ [e]) (visit ok c s e) (MidL.visit hs hok (d := s.1) (qu := s.2) m)
      simpa using this
  have m1 := key (Near c.1 c.2) [] (d, r) h0
  generalize (Near c.1 c.2).foldl (visit ok c) (d, r) = s at m1 ⊢
  rw [List.nil_append] at m1
  refine ⟨fun a ha => (m1.hq a ha).1, m1.sorted, fun a hHa ha b hb => ?_, fun a hHa ha => ?_⟩
  · have := m1.top a hHa ha
    have := (m1.hq b hb).2
    omega
  · rcases m1.all a hHa ha with k | k | k
    · exact .inl k
    · subst k
      refine .inr fun e he heo => ?_
      have h1 := m1.proc e he heo
      exact ⟨h1, m1.top e (hok e heo) h1⟩
    · exact .inr k
/-- Where cells beside each other have been found, the steps differ by at most one. -/
def Flat1 (w h : Int) (ok : Cel → Prop) (d : Nat → Int) : Prop := ∀ a e, Has w h a.1 a.2 → 0 ≤ d (ix a) → e ∈ Near a.1 a.2 → ok e → 0 ≤ d (ix e) → d (ix e) ≤ d (ix a) + 1
theorem LayL.flat (hok : ∀ e, ok e → Has w h e.1 e.2) {d : Nat → Int} {qu : List Cel} (m : LayL w h ok d qu) : Flat1 w h ok d := fun a e hHa ha hn heo he => by
  rcases m.all a hHa ha with k | k
  · exact m.top e (hok e heo) he a k
  · exact (k e hn heo).2
theorem bfs_flat (hs : w ≤ 10 ∧ h ≤ 10) (hok : ∀ e, ok e → Has w h e.1 e.2) : ∀ (n : Nat) {d : Nat → Int} {qu : List Cel}, LayL w h ok d qu → Flat1 w h ok (bfs ok n (d, qu))
  | 0, d, qu, m => m.flat hok
  | n + 1, d, [], m => m.flat hok
  | n + 1, d, c :: r, m => bfs_flat hs hok n (m.pop hs hok)
theorem far_flat (hs : w ≤ 10 ∧ h ≤ 10) (hok : ∀ e, ok e → Has w h e.1 e.2) {c : Cel} (hc : Has w h c.1 c.2) : Flat1 w h ok (far ok c) := by
  refine bfs_flat hs hok 100 ⟨fun a ha => ?_, List.pairwise_singleton _ _, fun a hHa ha b hb => ?_, fun a hHa ha => ?_⟩
  · rw [List.mem_singleton] at ha; subst ha
    exact ⟨hc, by simp [gset]⟩
  · rw [List.mem_singleton] at hb; subst hb
    simp only [gset] at ha ⊢
    split at ha
    · rename_i k; rw [if_pos k]; simp
    · omega
  · simp only [gset] at ha
    split at ha
    · rename_i k; exact .inl (List.mem_singleton.2 (ix_inj hs hHa hc k))
    · omega
/-- Each cell that has been found was come to from one that is a step nearer. -/
def Come (w h : Int) (ok : Cel → Prop) (c0 : Cel) (d : Nat → Int) : Prop :=
  ∀ e, Has w h e.1 e.2 → 0 ≤ d (ix e) → (e = c0 ∧ d (ix e) = 0) ∨ (ok e ∧ ∃ p, (Has w h p.1 p.2 ∧ 0 ≤ d (ix p)) ∧ e ∈ Near p.1 p.2 ∧ d (ix e) = d (ix p) + 1)
theorem Come.visit (hs : w ≤ 10 ∧ h ≤ 10) (hok : ∀ e, ok e → Has w h e.1 e.2) {c0 c e : Cel} {d : Nat → Int} {qu : List Cel} (m : Come w h ok c0 d) (hc : Has w h c.1 c.2 ∧ 0 ≤ d (ix c)) (hn : e ∈ Near c.1 c.2) :
    Come w h ok c0 (visit ok c (d, qu) e).1 ∧ ∀ a, 0 ≤ d (ix a) → (visit ok c (d, qu) e).1 (ix a) = d (ix a) := by
  unfold DM.visit
  split
  · rename_i hh
    obtain ⟨he, hd⟩ := hh
    simp only at hd
    have keep : ∀ a, 0 ≤ d (ix a) → gset d (ix e) (d (ix c) + 1) (ix a) = d (ix a) := fun a ha => by
      simp only [gset]; rw [if_neg (fun k => by rw [k] at ha; omega)]
    show Come w h ok c0 (gset d (ix e) (d (ix c) + 1)) ∧ ∀ a, 0 ≤ d (ix a) → gset d (ix e) (d (ix c) + 1) (ix a) = d (ix a)
    refine ⟨fun x hHx hx => ?_, keep⟩
    by_cases hxe : ix x = ix e
    · have := ix_inj hs hHx (hok e he) hxe
      subst this
      refine .inr ⟨he, c, ⟨hc.1, by rw [keep c hc.2]; exact hc.2⟩, hn, ?_⟩
      rw [keep c hc.2]; simp [gset]
    · have hx0 : 0 ≤ d (ix x) := by simp only [gset] at hx; rw [if_neg hxe] at hx; exact hx
      rcases m x hHx hx0 with k | ⟨k1, p, k2, k3, k4⟩
      · exact .inl ⟨k.1, by rw [keep x hx0]; exact k.2⟩
      · exact .inr ⟨k1, p, ⟨k2.1, by rw [keep p k2.2]; exact k2.2⟩, k3, by rw [keep x hx0, keep p k2.2]; exact k4⟩
  · exact ⟨m, fun _ _ => rfl⟩
theorem bfs_come (hs : w ≤ 10 ∧ h ≤ 10) (hok : ∀ e, ok e → Has w h e.1 e.2) {c0 : Cel} : ∀ (n : Nat) {d : Nat → Int} {qu : List Cel}, Come w h ok c0 d → LayL w h ok d qu → Come w h ok c0 (bfs ok n (d, qu))
  | 0, d, qu, m, _ => m
  | n + 1, d, [], m, _ => m
  | n + 1, d, c :: r, m, b => by
    have hc := b.hq c (List.mem_cons_self ..)
    have key : ∀ (L : List Cel) (s : (Nat → Int) × List Cel), (∀ e ∈ L, e ∈ Near c.1 c.2) → Come w h ok c0 s.1 → 0 ≤ s.1 (ix c) → Come w h ok c0 (L.foldl (visit ok c) s).1 := by
      intro L
      induction L with
      | nil => intro s _ m _; exact m
      | cons e L ih =>
        intro s hL m hc0
        have hv := Come.visit hs hok (d := s.1) (qu := s.2) m ⟨hc.1, hc0⟩ (hL e (List.mem_cons_self ..))
        refine ih (visit ok c s e) (fun x hx => hL x (List.mem_cons_of_mem _ hx)) hv.1 ?_
        have := hv.2 c hc0
        show 0 ≤ (visit ok c (s.1, s.2) e).1 (ix c)
        rw [this]; exact hc0
    exact bfs_come hs hok n (key _ _ (fun e he => he) m hc.2) (b.pop hs hok)
theorem far_come (hs : w ≤ 10 ∧ h ≤ 10) (hok : ∀ e, ok e → Has w h e.1 e.2) {c : Cel} (hc : Has w h c.1 c.2) : Come w h ok c (far ok c) := by
  refine bfs_come hs hok 100 (fun e hHe he => ?_) ⟨fun a ha => ?_, List.pairwise_singleton _ _, fun a hHa ha b hb => ?_, fun a hHa ha => ?_⟩
  · simp only [gset] at he
    split at he
    · rename_i k; exact .inl ⟨ix_inj hs hHe hc k, by simp [gset, k]⟩
    · omega
  · rw [List.mem_singleton] at ha; subst ha
    exact ⟨hc, by simp [gset]⟩
  · rw [List.mem_singleton] at hb; subst hb
    simp only [gset] at ha ⊢
    split at ha
    · rename_i k; rw [if_pos k]; simp
    · omega
  · simp only [gset] at ha
    split at ha
    · rename_i k; exact .inl (List.mem_singleton.2 (ix_inj hs hHa hc k))
    · omega
end

/-! Steps over open cells. -/
theorem okS_opn (e : Cel) : okS w h g false e ↔ Opn w h g e.1 e.2 := by
  simp only [okS, Opn, ix]
  constructor
  · rintro ⟨h1, h2⟩; exact ⟨h1, h2.imp id fun k => k.2⟩
  · rintro ⟨h1, h2⟩; exact ⟨h1, h2.imp id fun k => ⟨trivial, k⟩⟩
theorem near_symm {p e : Cel} (hn : e ∈ Near p.1 p.2) : p ∈ Near e.1 e.2 := by
  obtain ⟨x, y⟩ := p
  simp only [Near, List.mem_cons, List.not_mem_nil, or_false] at hn ⊢
  rcases hn with rfl | rfl | rfl | rfl <;> simp
/-- A cell is come to in so many steps. -/
inductive Rch (w h : Int) (g : Nat → Int) (x : Cel) : Nat → Cel → Prop
  | zero : Rch w h g x 0 x
  | step {m : Nat} {p e : Cel} : Rch w h g x m p → e ∈ Near p.1 p.2 → Opn w h g e.1 e.2 → Rch w h g x (m + 1) e
theorem Rch.opn {x e : Cel} {m : Nat} (hx : Opn w h g x.1 x.2) (r : Rch w h g x m e) : Opn w h g e.1 e.2 := by
  cases r with
  | zero => exact hx
  | step _ _ ho => exact ho
theorem steps_self {x : Cel} : steps w h g x (ix x) = 0 := by
  show bfs _ 100 _ (ix x) = 0
  rw [bfs_keep _ _ (by simp [gset])]; simp [gset]
theorem Rch.le (hs : w ≤ 10 ∧ h ≤ 10) {x : Cel} (hx : Opn w h g x.1 x.2) {m : Nat} {e : Cel} (r : Rch w h g x m e) : 0 ≤ steps w h g x (ix e) ∧ steps w h g x (ix e) ≤ m := by
  induction r with
  | zero => rw [steps_self]; simp
  | step r0 hn ho ih =>
    rename_i m p e
    have hp := r0.opn hx
    have h1 := far_closed (ok := okS w h g false) hs (fun e he => he.1) hx.1 p hp.1 ih.1
    have h2 := (h1.resolve_left (fun k => by cases k)) e hn ((okS_opn e).2 ho)
    have h3 := far_flat (ok := okS w h g false) hs (fun e he => he.1) hx.1 p e hp.1 ih.1 hn ((okS_opn e).2 ho) h2
    refine ⟨h2, ?_⟩
    show far (okS w h g false) x (ix e) ≤ _
    have h4 : far (okS w h g false) x (ix p) ≤ m := ih.2
    omega
theorem rch_steps (hs : w ≤ 10 ∧ h ≤ 10) {x : Cel} (hx : Opn w h g x.1 x.2) : ∀ (n : Nat) {e : Cel}, Has w h e.1 e.2 → steps w h g x (ix e) = n → Rch w h g x n e
  | n, e, he, hn => by
    rcases far_come (ok := okS w h g false) hs (fun e he => he.1) hx.1 e he (show 0 ≤ steps w h g x (ix e) by omega) with ⟨k1, k2⟩ | ⟨k1, p, k2, k3, k4⟩
    · have : n = 0 := by
        have : steps w h g x (ix e) = 0 := k2
        omega
      subst this; subst k1; exact .zero
    · have k5 : steps w h g x (ix e) = steps w h g x (ix p) + 1 := k4
      have k6 : 0 ≤ steps w h g x (ix p) := k2.2
      obtain ⟨m, rfl⟩ : ∃ m, n = m + 1 := ⟨n - 1, by omega⟩
      exact .step (rch_steps hs hx m k2.1 (by omega)) k3 ((okS_opn e).1 k1)
theorem Rch.trans {x c e : Cel} {m k : Nat} (r1 : Rch w h g x m c) (r2 : Rch w h g c k e) : Rch w h g x (m + k) e := by
  induction r2 with
  | zero => exact r1
  | step _ hn ho ih => exact .step ih hn ho
theorem Rch.rev {x : Cel} (hx : Opn w h g x.1 x.2) {m : Nat} {e : Cel} (r : Rch w h g x m e) : Rch w h g e m x := by
  induction r with
  | zero => exact .zero
  | step r0 hn ho ih =>
    rename_i m p e
    have h1 : Rch w h g e 1 p := .step .zero (near_symm hn) (r0.opn hx)
    have := h1.trans ih
    rwa [Nat.add_comm 1 m] at this
theorem Rch.split {x : Cel} {n : Nat} {e : Cel} (r : Rch w h g x n e) : ∀ m, m ≤ n → ∃ c, Rch w h g x m c ∧ Rch w h g c (n - m) e := by
  induction r with
  | zero => intro m hm; exact ⟨x, by rw [show m = 0 by omega]; exact .zero, by rw [show 0 - m = 0 by omega]; exact .zero⟩
  | step r0 hn ho ih =>
    rename_i n p e
    intro m hm
    by_cases hmn : m ≤ n
    · obtain ⟨c, h1, h2⟩ := ih m hmn
      exact ⟨c, h1, by rw [show n + 1 - m = n - m + 1 by omega]; exact .step h2 hn ho⟩
    · exact ⟨e, by rw [show m = n + 1 by omega]; exact .step r0 hn ho, by rw [show n + 1 - m = 0 by omega]; exact .zero⟩
theorem steps_nat {x e : Cel} (h0 : 0 ≤ steps w h g x (ix e)) : ∃ n : Nat, steps w h g x (ix e) = n := ⟨(steps w h g x (ix e)).toNat, by omega⟩
theorem meet_fold (X Y : Nat → Int) : ∀ (L : List Cel) (s0 : Cel × Int),
    (s0.2 < 0 ∨ (0 ≤ X (ix s0.1) ∧ 0 ≤ Y (ix s0.1)) ∧ s0.2 = max (X (ix s0.1)) (Y (ix s0.1))) →
    let r := L.foldl (meet X Y) s0
    (r.2 < 0 ∨ (0 ≤ X (ix r.1) ∧ 0 ≤ Y (ix r.1)) ∧ r.2 = max (X (ix r.1)) (Y (ix r.1)) ∧ (r.1 = s0.1 ∨ r.1 ∈ L)) ∧ (0 ≤ s0.2 → 0 ≤ r.2 ∧ r.2 ≤ s0.2) ∧ ∀ c ∈ L, 0 ≤ X (ix c) ∧ 0 ≤ Y (ix c) → 0 ≤ r.2 ∧ r.2 ≤ max (X (ix c)) (Y (ix c))
  | [], s0, h0 => by
    refine ⟨?_, fun h => ⟨h, Int.le_refl _⟩, fun c hc => by cases hc⟩
    rcases h0 with h0 | h0
    · exact .inl h0
    · exact .inr ⟨h0.1, h0.2, .inl rfl⟩
  | c :: L, s0, h0 => by
    have h1 : (meet X Y s0 c).2 < 0 ∨ (0 ≤ X (ix (meet X Y s0 c).1) ∧ 0 ≤ Y (ix (meet X Y s0 c).1)) ∧ (meet X Y s0 c).2 = max (X (ix (meet X Y s0 c).1)) (Y (ix (meet X Y s0 c).1)) := by
      unfold meet
      split
      · rename_i hh; exact .inr ⟨hh.1, rfl⟩
      · exact h0
    have h2 : (0 ≤ s0.2 → 0 ≤ (meet X Y s0 c).2 ∧ (meet X Y s0 c).2 ≤ s0.2) := fun hp => by
      unfold meet
      split
      · rename_i hh
        have := hh.2
        show 0 ≤ max (X (ix c)) (Y (ix c)) ∧ max (X (ix c)) (Y (ix c)) ≤ s0.2
        omega
      · exact ⟨hp, Int.le_refl _⟩
    have h3 : 0 ≤ X (ix c) ∧ 0 ≤ Y (ix c) → 0 ≤ (meet X Y s0 c).2 ∧ (meet X Y s0 c).2 ≤ max (X (ix c)) (Y (ix c)) := fun hp => by
      unfold meet
      split
      · show 0 ≤ max (X (ix c)) (Y (ix c)) ∧ max (X (ix c)) (Y (ix c)) ≤ max (X (ix c)) (Y (ix c))
        omega
      · rename_i hh
        have : ¬ (s0.2 < 0 ∨ max (X (ix c)) (Y (ix c)) < s0.2) := fun k => hh ⟨hp, k⟩
        omega
    have h4 : (meet X Y s0 c).1 = s0.1 ∨ (meet X Y s0 c).1 = c := by
      unfold meet
      split
      · exact .inr rfl
      · exact .inl rfl
    obtain ⟨i1, i2, i3⟩ := meet_fold X Y L (meet X Y s0 c) h1
    simp only [List.foldl_cons]
    refine ⟨?_, fun hp => ?_, fun a ha hp => ?_⟩
    · rcases i1 with i1 | ⟨k1, k2, k3⟩
      · exact .inl i1
      · refine .inr ⟨k1, k2, ?_⟩
        rcases k3 with k3 | k3
        · rcases h4 with h4 | h4
          · exact .inl (k3.trans h4)
          · exact .inr (by rw [k3, h4]; exact List.mem_cons_self ..)
        · exact .inr (List.mem_cons_of_mem _ k3)
    · have := h2 hp
      have := i2 this.1
      omega
    · rcases List.mem_cons.1 ha with rfl | ha
      · have := h3 hp
        have := i2 this.1
        omega
      · exact i3 a ha hp
/-- Robots that meet have no nearer cell. -/
theorem meet_told (hs : w ≤ 10 ∧ h ≤ 10) {x y : Cel} (hx : Opn w h g x.1 x.2) (hy : Opn w h g y.1 y.2) :
    ((meetF w h g x y).2 < 0 ↔ steps w h g x (ix y) < 0) ∧ (0 ≤ (meetF w h g x y).2 → Opn w h g (meetF w h g x y).1.1 (meetF w h g x y).1.2 ∧ (0 ≤ steps w h g x (ix (meetF w h g x y).1) ∧ 0 ≤ steps w h g y (ix (meetF w h g x y).1)) ∧
      (meetF w h g x y).2 = max (steps w h g x (ix (meetF w h g x y).1)) (steps w h g y (ix (meetF w h g x y).1)) ∧ steps w h g x (ix y) ≤ 2 * (meetF w h g x y).2 ∧ 2 * (meetF w h g x y).2 ≤ steps w h g x (ix y) + 1) := by
  obtain ⟨i1, _, i3⟩ := meet_fold (steps w h g x) (steps w h g y) (allC w h) ((0, 0), -1) (.inl (by decide))
  have hF : (allC w h).foldl (meet (steps w h g x) (steps w h g y)) ((0, 0), -1) = meetF w h g x y := rfl
  simp only [hF] at i1 i3
  have up : 0 ≤ steps w h g x (ix y) → 0 ≤ (meetF w h g x y).2 ∧ 2 * (meetF w h g x y).2 ≤ steps w h g x (ix y) + 1 := fun h0 => by
    obtain ⟨n, hn⟩ := steps_nat h0
    have r := rch_steps hs hx n hy.1 hn
    obtain ⟨c, r1, r2⟩ := r.split (n / 2) (by omega)
    have hc := r1.opn hx
    have l1 := r1.le hs hx
    have l2 := (r2.rev hc).le hs hy
    have := i3 c (has_mem hc.1) ⟨l1.1, l2.1⟩
    omega
  have low : 0 ≤ (meetF w h g x y).2 → Opn w h g (meetF w h g x y).1.1 (meetF w h g x y).1.2 ∧ (0 ≤ steps w h g x (ix (meetF w h g x y).1) ∧ 0 ≤ steps w h g y (ix (meetF w h g x y).1)) ∧
      (meetF w h g x y).2 = max (steps w h g x (ix (meetF w h g x y).1)) (steps w h g y (ix (meetF w h g x y).1)) ∧ 0 ≤ steps w h g x (ix y) ∧ steps w h g x (ix y) ≤ 2 * (meetF w h g x y).2 := fun h0 => by
    rcases i1 with i1 | ⟨k1, k2, k3⟩
    · omega
    · have hH : Has w h (meetF w h g x y).1.1 (meetF w h g x y).1.2 := by
        rcases k3 with e | e
        · rw [e]
          have := hx.1
          simp only [Has] at this ⊢
          omega
        · exact allC_mem e
      have ho := steps_open hs hx hH k1.1
      obtain ⟨m, hm⟩ := steps_nat k1.1
      obtain ⟨k, hk⟩ := steps_nat k1.2
      have r1 := rch_steps hs hx m hH hm
      have r2 := (rch_steps hs hy k hH hk).rev hy
      have := (r1.trans r2).le hs hx
      refine ⟨ho, k1, k2, this.1, ?_⟩
      omega
  refine ⟨⟨fun h0 => ?_, fun h0 => ?_⟩, fun h0 => ?_⟩
  · have : ¬ 0 ≤ steps w h g x (ix y) := fun k => by have := up k; omega
    omega
  · have : ¬ 0 ≤ (meetF w h g x y).2 := fun k => by have := (low k).2.2.2.1; omega
    omega
  · obtain ⟨a1, a2, a3, a4, a5⟩ := low h0
    exact ⟨a1, a2, a3, a5, (up a4).2⟩
end Go.DM
