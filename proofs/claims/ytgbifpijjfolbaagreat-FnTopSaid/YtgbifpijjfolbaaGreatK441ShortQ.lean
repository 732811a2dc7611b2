/- When a way has mown all grass for the first time: both sides, the statement. -/
import Derived.Test.YtgbifpijjfolbaaGreatK441Whole
import Derived.Test.YtgbifpijjfolbaaGreatK441RunsP
import Derived.Test.YtgbifpijjfolbaaGreatK441Meet
import Derived.Test.YtgbifpijjfolbaaGreatK441Text
import Derived.Test.YtgbifpijjfolbaaGreatK441SidesP
import Derived.Test.YtgbifpijjfolbaaGreatK441All
set_option linter.all false
set_option maxHeartbeats 4000000
namespace Go.DM
variable [Tok]
open Go.IntWalk
variable {w h : Int} {g : Nat → Int} {cs : List S}
theorem allC_nodup (hw : 0 ≤ w) : (allC w h).Nodup := by
  unfold allC cellsTo List.Nodup
  rw [List.pairwise_map]
  refine List.Pairwise.imp (fun {a b} hab he => hab ?_) List.nodup_range
  rw [Prod.mk.injEq, Int.natCast_inj, Int.natCast_inj] at he
  rw [← Nat.div_add_mod a w.toNat, ← Nat.div_add_mod b w.toNat, he.1, he.2]
end Go.DM

/- How often a way mows each cell: both sides, the statement. -/
set_option maxHeartbeats 4000000
namespace Go.DM
variable [Tok]
open Go.IntWalk
variable {w h : Int} {g : Nat → Int} {cs : List S}
end Go.DM

/- What a way leaves, what it mows: both sides, the statements. -/
set_option maxHeartbeats 4000000
namespace Go.DM
variable [Tok]
open Go.IntWalk
variable {w h : Int} {g : Nat → Int} {cs : List S}
end Go.DM

/- The way home: both sides, the statement. -/
set_option maxHeartbeats 4000000
namespace Go.DM
variable [Tok]
open Go.IntWalk
variable {w h : Int} {g : Nat → Int} {cs : List S}
theorem visit_keep {ok : Cel → Prop} [DecidablePred ok] {c : Cel} {k : Nat} : ∀ (L : List Cel) (s : (Nat → Int) × List Cel), 0 ≤ s.1 k → (L.foldl (visit ok c) s).1 k = s.1 k
  | [], s, _ => rfl
  | e :: r, s, h0 => by
    have h1 : (visit ok c s e).1 k = s.1 k := by
      unfold visit; split
      · rename_i hh; simp only [gset]; rw [if_neg]; intro e2; rw [e2] at h0; omega
      · rfl
    rw [List.foldl_cons, visit_keep r _ (by omega), h1]
theorem bfs_keep {ok : Cel → Prop} [DecidablePred ok] {k : Nat} : ∀ (n : Nat) (s : (Nat → Int) × List Cel), 0 ≤ s.1 k → bfs ok n s k = s.1 k
  | 0, s, _ => rfl
  | n + 1, (d, []), _ => rfl
  | n + 1, (d, c :: r), h0 => by
    have h1 := visit_keep (ok := ok) (c := c) (k := k) (Near c.1 c.2) (d, r) h0
    show bfs ok n _ k = d k
    rw [bfs_keep n _ (by rw [h1]; exact h0), h1]
def Pred (w h : Int) (c0 : Cel) (d : Nat → Int) : Prop := ∀ e, Has w h e.1 e.2 → 0 ≤ d (ix e) → e = c0 ∨ ∃ p ∈ Near e.1 e.2, Has w h p.1 p.2 ∧ 0 ≤ d (ix p) ∧ d (ix e) = d (ix p) + 1
def nextP (w h : Int) (d : Nat → Int) (c e : Cel) : Prop := Has w h e.1 e.2 ∧ d (ix e) = d (ix c) - 1
instance (w h : Int) (d : Nat → Int) (c : Cel) : DecidablePred (nextP w h d c) := fun e => inferInstanceAs (Decidable (_ ∧ _))
structure Homes (w h : Int) (g : Nat → Int) (c0 : Cel) (d : Nat → Int) : Prop where
  home : d (ix c0) = 0
  pred : Pred w h c0 d
  b : ∀ k, -1 ≤ d k ∧ d k ≤ 100
  op : ∀ e, Has w h e.1 e.2 → 0 ≤ d (ix e) → Opn w h g e.1 e.2
theorem Homes.next {c0 c : Cel} {d : Nat → Int} (H : Homes w h g c0 d) (hc : Has w h c.1 c.2) (h0 : 0 ≤ d (ix c)) (hne : c ≠ c0) : 1 ≤ d (ix c) ∧ ∃ p ∈ Near c.1 c.2, nextP w h d c p := by
  rcases H.pred c hc h0 with h1 | ⟨p, hp, h1, h2, h3⟩
  · exact absurd h1 hne
  · exact ⟨by omega, p, hp, h1, by omega⟩
end Go.DM

/- How deep a cell lies: both sides, the statement. -/
set_option maxHeartbeats 4000000
namespace Go.DM
variable [Tok]
open Go.IntWalk
variable {w h : Int} {g : Nat → Int} {cs : List S}
theorem visit_sub {ok : Cel → Prop} [DecidablePred ok] {c a : Cel} : ∀ (L : List Cel) (s : (Nat → Int) × List Cel), a ∈ s.2 → a ∈ (L.foldl (visit ok c) s).2
  | [], s, ha => ha
  | e :: r, s, ha => by
    rw [List.foldl_cons]
    refine visit_sub r _ ?_
    unfold visit; split
    · exact List.mem_append_left _ ha
    · exact ha
theorem visit_new {ok : Cel → Prop} [DecidablePred ok] (hs : w ≤ 10 ∧ h ≤ 10) (hok : ∀ e, ok e → Has w h e.1 e.2) {c a : Cel} (ha : Has w h a.1 a.2) : ∀ (L : List Cel) (s : (Nat → Int) × List Cel), 0 ≤ (L.foldl (visit ok c) s).1 (ix a) → 0 ≤ s.1 (ix a) ∨ a ∈ (L.foldl (visit ok c) s).2
  | [], s, h0 => .inl h0
  | e :: r, s, h0 => by
    rw [List.foldl_cons] at h0 ⊢
    rcases visit_new hs hok ha r _ h0 with h1 | h1
    · unfold visit at h1
      split at h1
      · rename_i hh
        simp only [gset] at h1
        split at h1
        · rename_i h2
          have h3 := ix_inj hs ha (hok e hh.1) h2
          refine .inr (visit_sub r _ ?_)
          unfold visit; rw [if_pos hh, h3]
          exact List.mem_append_right _ (List.mem_singleton.2 rfl)
        · exact .inl h1
      · exact .inl h1
    · exact .inr h1
theorem visit_all {ok : Cel → Prop} [DecidablePred ok] {c e : Cel} : ∀ (L : List Cel) (s : (Nat → Int) × List Cel), 0 ≤ s.1 (ix c) → e ∈ L → ok e → 0 ≤ (L.foldl (visit ok c) s).1 (ix e)
  | [], s, _, he, _ => by cases he
  | a :: r, s, h0, he, hk => by
    have h1 := visit_keep (ok := ok) (c := c) (k := ix c) [a] s h0
    simp only [List.foldl_cons, List.foldl_nil] at h1
    rw [List.foldl_cons]
    rcases List.mem_cons.1 he with rfl | he
    · have h2 : 0 ≤ (visit ok c s e).1 (ix e) := by
        unfold visit; split
        · simp only [gset, if_true]; omega
        · rename_i hh
          exact Int.not_lt.1 fun h3 => hh ⟨hk, h3⟩
      rw [visit_keep r _ h2]; exact h2
    · exact visit_all r _ (by omega) he hk
theorem visit_count {ok : Cel → Prop} [DecidablePred ok] (hs : w ≤ 10 ∧ h ≤ 10) (hok : ∀ e, ok e → Has w h e.1 e.2) {c : Cel} : ∀ (L : List Cel) {s : (Nat → Int) × List Cel}, BInv w h s.1 (c :: s.2) → unk (L.foldl (visit ok c) s).1 + (L.foldl (visit ok c) s).2.length = unk s.1 + s.2.length
  | [], s, _ => rfl
  | a :: r, s, b => by
    rw [List.foldl_cons, visit_count hs hok r (visit_inv hs hok b)]
    unfold visit; split
    · rename_i hh
      have h1 := (b.push hs (List.mem_cons_self ..) (hok a hh.1) hh.2).2
      rw [List.length_append, List.length_singleton]
      simp only at h1 ⊢
      omega
    · rfl
def Closed (w h : Int) (ok : Cel → Prop) (d : Nat → Int) (r : List Cel) : Prop := ∀ c, Has w h c.1 c.2 → 0 ≤ d (ix c) → c ∈ r ∨ ∀ e ∈ Near c.1 c.2, ok e → 0 ≤ d (ix e)
theorem bfs_closed {ok : Cel → Prop} [DecidablePred ok] (hs : w ≤ 10 ∧ h ≤ 10) (hok : ∀ e, ok e → Has w h e.1 e.2) : ∀ (n : Nat) {s : (Nat → Int) × List Cel}, BInv w h s.1 s.2 → unk s.1 + s.2.length ≤ n → Closed w h ok s.1 s.2 → Closed w h ok (bfs ok n s) []
  | 0, (d, []), _, _, b => b
  | 0, (d, c :: r), _, hn, b => by simp at hn
  | n + 1, (d, []), _, _, b => b
  | n + 1, (d, c :: r), i, hn, b => by
    have hc := i.q c (List.mem_cons_self ..)
    have h1 := fold_inv hs hok (Near c.1 c.2) (s := (d, r)) i
    have h2 := visit_count hs hok (Near c.1 c.2) (s := (d, r)) i
    refine bfs_closed hs hok n ⟨h1.lo, h1.hi, fun a ha => h1.q a (List.mem_cons_of_mem _ ha), by have := h1.len; rw [List.length_cons] at this; omega⟩ (by simp only [List.length_cons] at hn; simp only at h2; omega) ?_
    intro a ha h0
    by_cases hac : a = c
    · subst hac
      exact .inr fun e he hk => visit_all _ _ hc.2 he hk
    · rcases visit_new hs hok ha (Near c.1 c.2) (d, r) h0 with h3 | h3
      · rcases b a ha h3 with h4 | h4
        · rcases List.mem_cons.1 h4 with h5 | h5
          · exact absurd h5 hac
          · exact .inl (visit_sub _ _ h5)
        · refine .inr fun e he hk => ?_
          have h5 := h4 e he hk
          rw [visit_keep (Near c.1 c.2) (d, r) h5]; exact h5
      · exact .inl h3
theorem far_closed {ok : Cel → Prop} [DecidablePred ok] (hs : w ≤ 10 ∧ h ≤ 10) (hok : ∀ e, ok e → Has w h e.1 e.2) {c : Cel} (hc : Has w h c.1 c.2) : Closed w h ok (far ok c) [] := by
  have hf := BInv.first hs hc
  refine bfs_closed hs hok 100 hf.1 (by rw [hf.2]; simp) ?_
  intro a ha h0
  simp only [gset] at h0
  split at h0
  · rename_i h2; exact .inl (List.mem_singleton.2 (ix_inj hs ha hc h2))
  · omega
end Go.DM

/- The steps that are found are the least ones. -/
set_option maxHeartbeats 4000000
namespace Go.DM
variable [Tok]
open Go.IntWalk
variable {w h : Int} {g : Nat → Int} {cs : List S}
section
variable {ok : Cel → Prop} [DecidablePred ok]
def Beside1 (w h : Int) (ok : Cel → Prop) (d : Nat → Int) (a : Cel) : Prop := ∀ e ∈ Near a.1 a.2, ok e → 0 ≤ d (ix e) ∧ d (ix e) ≤ d (ix a) + 1
structure MidL (w h : Int) (ok : Cel → Prop) (c : Cel) (P : List Cel) (d : Nat → Int) (qu : List Cel) : Prop where
  hc : Has w h c.1 c.2 ∧ 0 ≤ d (ix c)
  hq : ∀ a ∈ qu, (Has w h a.1 a.2 ∧ 0 ≤ d (ix a)) ∧ d (ix c) ≤ d (ix a)
  sorted : qu.Pairwise fun a b => d (ix a) ≤ d (ix b)
  top : ∀ a, Has w h a.1 a.2 → 0 ≤ d (ix a) → d (ix a) ≤ d (ix c) + 1
  all : ∀ a, Has w h a.1 a.2 → 0 ≤ d (ix a) → a ∈ qu ∨ a = c ∨ Beside1 w h ok d a
  proc : ∀ e ∈ P, ok e → 0 ≤ d (ix e)
theorem MidL.visit (hs : w ≤ 10 ∧ h ≤ 10) (hok : ∀ e, ok e → Has w h e.1 e.2) {c e : Cel} {P : List Cel} {d : Nat → Int} {qu : List Cel} (m : MidL w h ok c P d qu) :
    MidL w h ok c (P ++ [e]) (visit ok c (d, qu) e).1 (visit ok c (d, qu) e).2 := by
  unfold DM.visit
  split
  · rename_i hh
    obtain ⟨he, hd⟩ := hh
    simp only at hd
    have hHe := hok e he
    have keep : ∀ a, 0 ≤ d (ix a) → gset d (ix e) (d (ix c) + 1) (ix a) = d (ix a) := fun a ha => by
      simp only [gset]; rw [if_neg (fun k => by rw [k] at ha; omega)]
    have new : gset d (ix e) (d (ix c) + 1) (ix e) = d (ix c) + 1 := by simp [gset]
    have hc := m.hc
    have old : ∀ a, Has w h a.1 a.2 → 0 ≤ gset d (ix e) (d (ix c) + 1) (ix a) → a = e ∨ 0 ≤ d (ix a) := fun a hHa ha => by
      simp only [gset] at ha
      split at ha
      · rename_i k; exact .inl (ix_inj hs hHa hHe k)
      · exact .inr ha
    show MidL w h ok c (P ++ [e]) (gset d (ix e) (d (ix c) + 1)) (qu ++ [e])
    refine ⟨⟨hc.1, by rw [keep c hc.2]; exact hc.2⟩, fun a ha => ?_, ?_, fun a hHa ha => ?_, fun a hHa ha => ?_, fun x hx hxo => ?_⟩
    · rw [keep c hc.2]
      rcases List.mem_append.1 ha with ha | ha
      · have := m.hq a ha
        rw [keep a this.1.2]; exact this
      · rw [List.mem_singleton] at ha; subst ha
        rw [new]
        exact ⟨⟨hHe, by omega⟩, by omega⟩
    · rw [List.pairwise_append]
      refine ⟨?_, List.pairwise_singleton _ _, fun a ha b hb => ?_⟩
      · refine List.Pairwise.imp_of_mem ?_ m.sorted
        intro a b ha hb hab
        rw [keep a (m.hq a ha).1.2, keep b (m.hq b hb).1.2]; exact hab
      · rw [List.mem_singleton] at hb; subst hb
        rw [keep a (m.hq a ha).1.2, new]
        exact m.top a (m.hq a ha).1.1 (m.hq a ha).1.2
    · rw [keep c hc.2]
      rcases old a hHa ha with rfl | h0
      · rw [new]; omega
      · rw [keep a h0]; exact m.top a hHa h0
    · rcases old a hHa ha with rfl | h0
      · exact .inl (List.mem_append_right _ (List.mem_singleton_self _))
      · rcases m.all a hHa h0 with k | k | k
        · exact .inl (List.mem_append_left _ k)
        · exact .inr (.inl k)
        · refine .inr (.inr fun x hx hxo => ?_)
          have := k x hx hxo
          rw [keep x this.1, keep a h0]; exact this
    · rcases List.mem_append.1 hx with hx | hx
      · have := m.proc x hx hxo
        rw [keep x this]; exact this
      · rw [List.mem_singleton] at hx; subst hx
        rw [new]; omega
  · rename_i hh
    show MidL w h ok c (P ++ [e]) d qu
    refine ⟨m.hc, m.hq, m.sorted, m.top, m.all, fun x hx hxo => ?_⟩
    rcases List.mem_append.1 hx with hx | hx
    · exact m.proc x hx hxo
    · rw [List.mem_singleton] at hx; subst hx
      have : ¬ d (ix x) < 0 := fun k => hh ⟨hxo, k⟩
      show 0 ≤ d (ix x)
      omega
structure LayL (w h : Int) (ok : Cel → Prop) (d : Nat → Int) (qu : List Cel) : Prop where
  hq : ∀ a ∈ qu, Has w h a.1 a.2 ∧ 0 ≤ d (ix a)
  sorted : qu.Pairwise fun a b => d (ix a) ≤ d (ix b)
  top : ∀ a, Has w h a.1 a.2 → 0 ≤ d (ix a) → ∀ b ∈ qu, d (ix a) ≤ d (ix b) + 1
  all : ∀ a, Has w h a.1 a.2 → 0 ≤ d (ix a) → a ∈ qu ∨ Beside1 w h ok d a
theorem LayL.pop (hs : w ≤ 10 ∧ h ≤ 10) (hok : ∀ e, ok e → Has w h e.1 e.2) {c : Cel} {d : Nat → Int} {r : List Cel} (m : LayL w h ok d (c :: r)) :
    LayL w h ok ((Near c.1 c.2).foldl (visit ok c) (d, r)).1 ((Near c.1 c.2).foldl (visit ok c) (d, r)).2 := by
  have h0 : MidL w h ok c [] d r := by
    have hc := m.hq c (List.mem_cons_self ..)
    have hp := List.pairwise_cons.1 m.sorted
    refine ⟨hc, fun a ha => ⟨m.hq a (List.mem_cons_of_mem _ ha), hp.1 a ha⟩, hp.2, fun a hHa ha => m.top a hHa ha c (List.mem_cons_self ..), fun a hHa ha => ?_, fun e he => by cases he⟩
    rcases m.all a hHa ha with k | k
    · rcases List.mem_cons.1 k with k | k
      · exact .inr (.inl k)
      · exact .inl k
    · exact .inr (.inr k)
  have key : ∀ (L P : List Cel) (s : (Nat → Int) × List Cel), MidL w h ok c P s.1 s.2 → MidL w h ok c (P ++ L) (L.foldl (visit ok c) s).1 (L.foldl (visit ok c) s).2 := by
    intro L
    induction L with
    | nil => intro P s m; simpa using m
    | cons e L ih =>
      intro P s m
      have := ih (P ++ [e]) (visit ok c s e) (MidL.visit hs hok (d := s.1) (qu := s.2) m)
      simpa using this
  have m1 := key (Near c.1 c.2) [] (d, r) h0
  generalize (Near c.1 c.2).foldl (visit ok c) (d, r) = s at m1 ⊢
  rw [List.nil_append] at m1
  refine ⟨fun a ha => (m1.hq a ha).1, m1.sorted, fun a hHa ha b hb => ?_, fun a hHa ha => ?_⟩
  · have := m1.top a hHa ha
    have := (m1.hq b hb).2
    omega
  · rcases m1.all a hHa ha with k | k | k
    · exact .inl k
    · subst k
      refine .inr fun e he heo => ?_
      have h1 := m1.proc e he heo
      exact ⟨h1, m1.top e (hok e heo) h1⟩
    · exact .inr k
def Flat1 (w h : Int) (ok : Cel → Prop) (d : Nat → Int) : Prop := ∀ a e, Has w h a.1 a.2 → 0 ≤ d (ix a) → e ∈ Near a.1 a.2 → ok e → 0 ≤ d (ix e) → d (ix e) ≤ d (ix a) + 1
theorem LayL.flat (hok : ∀ e, ok e → Has w h e.1 e.2) {d : Nat → Int} {qu : List Cel} (m : LayL w h ok d qu) : Flat1 w h ok d := fun a e hHa ha hn heo he => by
  rcases m.all a hHa ha with k | k
  · exact m.top e (hok e heo) he a k
  · exact (k e hn heo).2
theorem bfs_flat (hs : w ≤ 10 ∧ h ≤ 10) (hok : ∀ e, ok e → Has w h e.1 e.2) : ∀ (n : Nat) {d : Nat → Int} {qu : List Cel}, LayL w h ok d qu → Flat1 w h ok (bfs ok n (d, qu))
  | 0, d, qu, m => m.flat hok
  | n + 1, d, [], m => m.flat hok
  | n + 1, d, c :: r, m => bfs_flat hs hok n (m.pop hs hok)
theorem far_flat (hs : w ≤ 10 ∧ h ≤ 10) (hok : ∀ e, ok e → Has w h e.1 e.2) {c : Cel} (hc : Has w h c.1 c.2) : Flat1 w h ok (far ok c) := by
  refine bfs_flat hs hok 100 ⟨fun a ha => ?_, List.pairwise_singleton _ _, fun a hHa ha b hb => ?_, fun a hHa ha => ?_⟩
  · rw [List.mem_singleton] at ha; subst ha
    exact ⟨hc, by simp [gset]⟩
  · rw [List.mem_singleton] at hb; subst hb
    simp only [gset] at ha ⊢
    split at ha
    · rename_i k; rw [if_pos k]; simp
    · omega
  · simp only [gset] at ha
    split at ha
    · rename_i k; exact .inl (List.mem_singleton.2 (ix_inj hs hHa hc k))
    · omega
def Come (w h : Int) (ok : Cel → Prop) (c0 : Cel) (d : Nat → Int) : Prop :=
  ∀ e, Has w h e.1 e.2 → 0 ≤ d (ix e) → (e = c0 ∧ d (ix e) = 0) ∨ (ok e ∧ ∃ p, (Has w h p.1 p.2 ∧ 0 ≤ d (ix p)) ∧ e ∈ Near p.1 p.2 ∧ d (ix e) = d (ix p) + 1)
theorem Come.visit (hs : w ≤ 10 ∧ h ≤ 10) (hok : ∀ e, ok e → Has w h e.1 e.2) {c0 c e : Cel} {d : Nat → Int} {qu : List Cel} (m : Come w h ok c0 d) (hc : Has w h c.1 c.2 ∧ 0 ≤ d (ix c)) (hn : e ∈ Near c.1 c.2) :
    Come w h ok c0 (visit ok c (d, qu) e).1 ∧ ∀ a, 0 ≤ d (ix a) → (visit ok c (d, qu) e).1 (ix a) = d (ix a) := by
  unfold DM.visit
  split
  · rename_i hh
    obtain ⟨he, hd⟩ := hh
    simp only at hd
    have keep : ∀ a, 0 ≤ d (ix a) → gset d (ix e) (d (ix c) + 1) (ix a) = d (ix a) := fun a ha => by
      simp only [gset]; rw [if_neg (fun k => by rw [k] at ha; omega)]
    show Come w h ok c0 (gset d (ix e) (d (ix c) + 1)) ∧ ∀ a, 0 ≤ d (ix a) → gset d (ix e) (d (ix c) + 1) (ix a) = d (ix a)
    refine ⟨fun x hHx hx => ?_, keep⟩
    by_cases hxe : ix x = ix e
    · have := ix_inj hs hHx (hok e he) hxe
      subst this
      refine .inr ⟨he, c, ⟨hc.1, by rw [keep c hc.2]; exact hc.2⟩, hn, ?_⟩
      rw [keep c hc.2]; simp [gset]
    · have hx0 : 0 ≤ d (ix x) := by simp only [gset] at hx; rw [if_neg hxe] at hx; exact hx
      rcases m x hHx hx0 with k | ⟨k1, p, k2, k3, k4⟩
      · exact .inl ⟨k.1, by rw [keep x hx0]; exact k.2⟩
      · exact .inr ⟨k1, p, ⟨k2.1, by rw [keep p k2.2]; exact k2.2⟩, k3, by rw [keep x hx0, keep p k2.2]; exact k4⟩
  · exact ⟨m, fun _ _ => rfl⟩
end
theorem okS_opn (e : Cel) : okS w h g false e ↔ Opn w h g e.1 e.2 := by
  simp only [okS, Opn, ix]
  constructor
  · rintro ⟨h1, h2⟩; exact ⟨h1, h2.imp id fun k => k.2⟩
  · rintro ⟨h1, h2⟩; exact ⟨h1, h2.imp id fun k => ⟨trivial, k⟩⟩
inductive Rch (w h : Int) (g : Nat → Int) (x : Cel) : Nat → Cel → Prop
  | zero : Rch w h g x 0 x
  | step {m : Nat} {p e : Cel} : Rch w h g x m p → e ∈ Near p.1 p.2 → Opn w h g e.1 e.2 → Rch w h g x (m + 1) e
theorem Rch.opn {x e : Cel} {m : Nat} (hx : Opn w h g x.1 x.2) (r : Rch w h g x m e) : Opn w h g e.1 e.2 := by
  cases r with
  | zero => exact hx
  | step _ _ ho => exact ho
theorem steps_self {x : Cel} : steps w h g x (ix x) = 0 := by
  show bfs _ 100 _ (ix x) = 0
  rw [bfs_keep _ _ (by simp [gset])]; simp [gset]
theorem Rch.le (hs : w ≤ 10 ∧ h ≤ 10) {x : Cel} (hx : Opn w h g x.1 x.2) {m : Nat} {e : Cel} (r : Rch w h g x m e) : 0 ≤ steps w h g x (ix e) ∧ steps w h g x (ix e) ≤ m := by
  induction r with
  | zero => rw [steps_self]; simp
  | step r0 hn ho ih =>
    rename_i m p e
    have hp := r0.opn hx
    have h1 := far_closed (ok := okS w h g false) hs (fun e he => he.1) hx.1 p hp.1 ih.1
    have h2 := (h1.resolve_left (fun k => by cases k)) e hn ((okS_opn e).2 ho)
    have h3 := far_flat (ok := okS w h g false) hs (fun e he => he.1) hx.1 p e hp.1 ih.1 hn ((okS_opn e).2 ho) h2
    refine ⟨h2, ?_⟩
    show far (okS w h g false) x (ix e) ≤ _
    have h4 : far (okS w h g false) x (ix p) ≤ m := ih.2
    omega
theorem Rch.trans {x c e : Cel} {m k : Nat} (r1 : Rch w h g x m c) (r2 : Rch w h g c k e) : Rch w h g x (m + k) e := by
  induction r2 with
  | zero => exact r1
  | step _ hn ho ih => exact .step ih hn ho
theorem Rch.split {x : Cel} {n : Nat} {e : Cel} (r : Rch w h g x n e) : ∀ m, m ≤ n → ∃ c, Rch w h g x m c ∧ Rch w h g c (n - m) e := by
  induction r with
  | zero => intro m hm; exact ⟨x, by rw [show m = 0 by omega]; exact .zero, by rw [show 0 - m = 0 by omega]; exact .zero⟩
  | step r0 hn ho ih =>
    rename_i n p e
    intro m hm
    by_cases hmn : m ≤ n
    · obtain ⟨c, h1, h2⟩ := ih m hmn
      exact ⟨c, h1, by rw [show n + 1 - m = n - m + 1 by omega]; exact .step h2 hn ho⟩
    · exact ⟨e, by rw [show m = n + 1 by omega]; exact .step r0 hn ho, by rw [show n + 1 - m = 0 by omega]; exact .zero⟩
end Go.DM

/- Ways as lists of letters: ways back, loosened ways, ways home. Plain facts. -/
set_option maxHeartbeats 4000000
namespace Go.DM
variable [Tok]
open Go.IntWalk
variable {w h : Int} {g : Nat → Int} {cs : List S}
def lu (b : UInt8) : Int := lt ((b.toNat : Nat) : Int)
def endL (c : Cel) (s : List UInt8) : Cel := s.foldl (fun c b => nx c (lu b)) c
theorem endL_app (c : Cel) (s t : List UInt8) : endL c (s ++ t) = endL (endL c s) t := List.foldl_append ..
def Safe (w h : Int) (g : Nat → Int) : List UInt8 → Cel → Prop
  | [], c => Opn w h g c.1 c.2
  | b :: s, c => Opn w h g c.1 c.2 ∧ Safe w h g s (nx c (lu b))
theorem Safe.start {s : List UInt8} {c : Cel} (hs : Safe w h g s c) : Opn w h g c.1 c.2 := by
  cases s with
  | nil => exact hs
  | cons b s => exact hs.1
theorem safe_app : ∀ {s t : List UInt8} {c : Cel}, Safe w h g (s ++ t) c ↔ Safe w h g s c ∧ Safe w h g t (endL c s)
  | [], t, c => ⟨fun k => ⟨Safe.start k, k⟩, fun k => k.2⟩
  | b :: s, t, c => by
    show (_ ∧ Safe w h g (s ++ t) (nx c (lu b))) ↔ (_ ∧ Safe w h g s (nx c (lu b))) ∧ Safe w h g t (endL (nx c (lu b)) s)
    rw [safe_app (s := s), and_assoc]
theorem Safe.stop {s : List UInt8} {c : Cel} (hs : Safe w h g s c) : Opn w h g (endL c s).1 (endL c s).2 := by
  have : Safe w h g (s ++ []) c := by rw [List.append_nil]; exact hs
  exact (safe_app.1 this).2
theorem at_endL (s : List UInt8) (c : Cel) : ∀ i, i ≤ s.length → at_ s c i = endL c (s.take i)
  | 0, _ => rfl
  | i + 1, hi => by
    have e : s.take (i + 1) = s.take i ++ [s.getD i 0] := by
      rw [List.take_add_one, List.getD_eq_getElem?_getD, List.getElem?_eq_getElem (by omega)]; rfl
    rw [at_succ, at_endL s c i (by omega), e, endL_app]; rfl
theorem safe_take {s : List UInt8} {c : Cel} (hs : Safe w h g s c) (i : Nat) : Safe w h g (s.take i) c := by
  have : Safe w h g (s.take i ++ s.drop i) c := by rw [List.take_append_drop]; exact hs
  exact (safe_app.1 this).1
theorem safe_opnW {s : List UInt8} {c : Cel} (hs : Safe w h g s c) : OpnW w h g c s := fun j hj => by
  rw [at_endL s c j (by omega)]
  exact (safe_take hs j).stop
theorem safe_one {c : Cel} {b : UInt8} : Safe w h g [b] c ↔ Opn w h g c.1 c.2 ∧ Opn w h g (nx c (lu b)).1 (nx c (lu b)).2 := Iff.rfl
def Lets (s : List UInt8) : Prop := ∀ b ∈ s, 0 ≤ lu b
theorem lets_gB {s : List UInt8} (hl : Lets s) : ∀ j, j < s.length → 0 ≤ lt (gB s j) := fun j hj => by
  have : s.getD j 0 ∈ s := by
    rw [List.getD_eq_getElem?_getD, List.getElem?_eq_getElem hj]; exact List.getElem_mem hj
  exact hl _ this
theorem Lets.app {s t : List UInt8} (hs : Lets s) (ht : Lets t) : Lets (s ++ t) := fun b hb => (List.mem_append.1 hb).elim (hs b) (ht b)
theorem Lets.take {s : List UInt8} (hs : Lets s) (i : Nat) : Lets (s.take i) := fun b hb => hs b (List.mem_of_mem_take hb)
theorem gone_safe (hL : LawnOk w h g) {s : List UInt8} {c : Cel} (hl : Lets s) (hn : s.length ≤ 200) (hs : Safe w h g s c) : goneC w h g c s = 0 := by
  have h1 : firstC w h g c = 0 := belowCode_zero.2 ⟨hL, hs.start.1, trivial⟩
  have h2 : wayC s = 0 := by unfold wayC; rw [if_neg (by omega), if_pos (lets_gB hl)]
  have h3 : toldC w h g c s = 0 := by unfold toldC; rw [if_pos h1, h2]
  unfold goneC
  rw [if_pos h3, if_pos (safe_opnW hs)]
def letB (k : Int) : UInt8 := if k = 0 then 78 else if k = 1 then 87 else if k = 2 then 69 else 83
theorem letB_lu {k : Int} (hk : 0 ≤ k ∧ k ≤ 3) : lu (letB k) = k := by
  obtain rfl | rfl | rfl | rfl : k = 0 ∨ k = 1 ∨ k = 2 ∨ k = 3 := by omega
  all_goals decide
end Go.DM

/- The shortest way by a queue: no way is shorter: plain facts (for FnTop). -/
set_option maxHeartbeats 4000000
namespace Go.DM
variable [Tok]
section
variable {α β : Type} [DecidableEq α]
def expand (nxt : α → Nat → Option α) (lt : Nat → β) (x : α × List β) (Q : List (α × List β)) (k : Nat) : List (α × List β) :=
  match nxt x.1 k with
  | some y => if y ∈ Q.map Prod.fst then Q else Q ++ [(y, x.2 ++ [lt k])]
  | none => Q
def stepW (nxt : α → Nat → Option α) (lt : Nat → β) (x : α × List β) (Q : List (α × List β)) : List (α × List β) := (List.range 4).foldl (expand nxt lt x) Q
structure QInv (nxt : α → Nat → Option α) (goal : α → Prop) (Q : List (α × List β)) (i : Nat) : Prop where
  le : i ≤ Q.length
  nd : (Q.map Prod.fst).Nodup
  sorted : ∀ (a b : Nat) (x y : α × List β), Q[a]? = some x → Q[b]? = some y → a ≤ b → x.2.length ≤ y.2.length
  top : ∀ e ∈ Q, ∀ (j : Nat) (x : α × List β), i ≤ j → Q[j]? = some x → e.2.length ≤ x.2.length + 1
  proc : ∀ (j : Nat) (x : α × List β), j < i → Q[j]? = some x → ¬ goal x.1 ∧ ∀ k, k < 4 → ∀ y, nxt x.1 k = some y → ∃ e ∈ Q, e.1 = y ∧ e.2.length ≤ x.2.length + 1
theorem QInv.first (nxt : α → Nat → Option α) (goal : α → Prop) (a : α) : QInv (β := β) nxt goal [(a, [])] 0 := by
  refine ⟨Nat.zero_le _, by simp, fun i j x y hx hy _ => ?_, fun e he j x _ hx => ?_, fun j x hj => by omega⟩
  · have h1 : x = (a, []) := by
      cases i with
      | zero => simpa using hx.symm
      | succ i => simp at hx
    rw [h1]; exact Nat.zero_le _
  · rw [List.mem_singleton.1 he]; exact Nat.zero_le _
structure QMid (nxt : α → Nat → Option α) (x : α × List β) (Q0 Q : List (α × List β)) (k : Nat) : Prop where
  pre : ∃ E, Q = Q0 ++ E ∧ ∀ e ∈ E, e.2.length = x.2.length + 1
  nd : (Q.map Prod.fst).Nodup
  done : ∀ j, j < k → ∀ y, nxt x.1 j = some y → y ∈ Q.map Prod.fst
theorem QMid.step {nxt : α → Nat → Option α} {lt : Nat → β} {x : α × List β} {Q0 Q : List (α × List β)} {k : Nat} (m : QMid nxt x Q0 Q k) : QMid nxt x Q0 (expand nxt lt x Q k) (k + 1) := by
  obtain ⟨⟨E, hE, hl⟩, nd, dn⟩ := m
  have old : ∀ j, j < k + 1 → j ≠ k → ∀ y, nxt x.1 j = some y → y ∈ Q.map Prod.fst := fun j hj hne y hy => dn j (by omega) y hy
  unfold expand
  cases hx : nxt x.1 k with
  | none =>
    refine ⟨⟨E, hE, hl⟩, nd, fun j hj y hy => ?_⟩
    by_cases e : j = k
    · subst e; rw [hx] at hy; cases hy
    · exact old j hj e y hy
  | some z =>
    simp only
    split
    · rename_i hm
      refine ⟨⟨E, hE, hl⟩, nd, fun j hj y hy => ?_⟩
      by_cases e : j = k
      · subst e; rw [hx] at hy; cases hy; exact hm
      · exact old j hj e y hy
    · rename_i hm
      refine ⟨⟨E ++ [(z, x.2 ++ [lt k])], by rw [hE, List.append_assoc], fun e he => ?_⟩, ?_, fun j hj y hy => ?_⟩
      · rcases List.mem_append.1 he with h | h
        · exact hl e h
        · rw [List.mem_singleton.1 h]; simp
      · rw [List.map_append, List.map_cons, List.map_nil]
        refine List.nodup_append.2 ⟨nd, by simp, fun a ha b hb hab => ?_⟩
        rw [List.mem_singleton.1 hb] at hab
        exact hm (by rw [show z = a from hab.symm]; exact ha)
      · rw [List.map_append, List.mem_append]
        by_cases e : j = k
        · subst e; rw [hx] at hy; cases hy; exact .inr (by simp)
        · exact .inl (old j hj e y hy)
theorem QMid.all {nxt : α → Nat → Option α} {lt : Nat → β} {x : α × List β} {Q : List (α × List β)} (nd : (Q.map Prod.fst).Nodup) : ∀ k, QMid nxt x Q ((List.range k).foldl (expand nxt lt x) Q) k
  | 0 => ⟨⟨[], by simp, fun e he => by cases he⟩, nd, fun j hj => by omega⟩
  | k + 1 => by
    rw [List.range_succ, List.foldl_append]
    exact (QMid.all nd k).step
theorem QInv.step {nxt : α → Nat → Option α} {goal : α → Prop} {lt : Nat → β} {Q : List (α × List β)} {i : Nat} {x : α × List β} (m : QInv nxt goal Q i) (hx : Q[i]? = some x) (hg : ¬ goal x.1) : QInv nxt goal (stepW nxt lt x Q) (i + 1) := by
  have hil : i < Q.length := (List.getElem?_eq_some_iff.1 hx).1
  have h4 := QMid.all (nxt := nxt) (lt := lt) (x := x) m.nd 4
  obtain ⟨⟨E, hE, hl⟩, nd, dn⟩ := h4
  change stepW nxt lt x Q = Q ++ E at hE
  change ((stepW nxt lt x Q).map Prod.fst).Nodup at nd
  change ∀ j, j < 4 → ∀ y, nxt x.1 j = some y → y ∈ (stepW nxt lt x Q).map Prod.fst at dn
  rw [hE] at nd dn ⊢
  have hget : ∀ a z, (Q ++ E)[a]? = some z → (a < Q.length ∧ Q[a]? = some z) ∨ (Q.length ≤ a ∧ z.2.length = x.2.length + 1) := fun a z hz => by
    by_cases ha : a < Q.length
    · rw [List.getElem?_append_left ha] at hz; exact .inl ⟨ha, hz⟩
    · rw [List.getElem?_append_right (by omega)] at hz
      exact .inr ⟨by omega, hl z (List.mem_of_getElem? hz)⟩
  have hQ : ∀ e ∈ Q, e.2.length ≤ x.2.length + 1 := fun e he => m.top e he i x (Nat.le_refl _) hx
  refine ⟨by rw [List.length_append]; omega, nd, fun a b y z hy hz hab => ?_, fun e he j z hj hz => ?_, fun j z hj hz => ?_⟩
  · rcases hget a y hy with ⟨h1, h2⟩ | ⟨h1, h2⟩
    · rcases hget b z hz with ⟨h3, h4⟩ | ⟨h3, h4⟩
      · exact m.sorted a b y z h2 h4 hab
      · have := hQ y (List.mem_of_getElem? h2); omega
    · rcases hget b z hz with ⟨h3, h4⟩ | ⟨h3, h4⟩
      · omega
      · omega
  · have he2 : e.2.length ≤ x.2.length + 1 := (List.mem_append.1 he).elim (hQ e) (fun k => by rw [hl e k]; exact Nat.le_refl _)
    rcases hget j z hz with ⟨h3, h4⟩ | ⟨h3, h4⟩
    · have := m.sorted i j x z hx h4 (by omega)
      omega
    · omega
  · have hjl : j < Q.length := by omega
    rw [List.getElem?_append_left hjl] at hz
    by_cases e : j = i
    · subst e
      rw [hx] at hz
      cases hz
      refine ⟨hg, fun k hk y hy => ?_⟩
      obtain ⟨e, he, rfl⟩ := List.mem_map.1 (dn k hk y hy)
      refine ⟨e, he, rfl, ?_⟩
      exact (List.mem_append.1 he).elim (hQ e) (fun k => by rw [hl e k]; exact Nat.le_refl _)
    · obtain ⟨h1, h2⟩ := m.proc j z (by omega) hz
      refine ⟨h1, fun k hk y hy => ?_⟩
      obtain ⟨e, he, h3, h4⟩ := h2 k hk y hy
      exact ⟨e, List.mem_append.2 (.inl he), h3, h4⟩
inductive Goes (nxt : α → Nat → Option α) (a : α) : Nat → α → Prop
  | zero : Goes nxt a 0 a
  | step {n : Nat} {x y : α} {k : Nat} : Goes nxt a n x → k < 4 → nxt x k = some y → Goes nxt a (n + 1) y
theorem QInv.least {nxt : α → Nat → Option α} {goal : α → Prop} {Q : List (α × List β)} {i : Nat} {x : α × List β} {a : α} (m : QInv nxt goal Q i) (h0 : Q[0]? = some (a, [])) (hx : Q[i]? = some x) {n : Nat} {y : α} (r : Goes nxt a n y) (hy : goal y) : x.2.length ≤ n := by
  have key : ∀ {n : Nat} {y : α}, Goes nxt a n y → n < x.2.length → ∃ j e, j < i ∧ Q[j]? = some e ∧ e.1 = y ∧ e.2.length ≤ n := fun {n y} r => by
    have low : ∀ e ∈ Q, e.2.length < x.2.length → ∃ j, j < i ∧ Q[j]? = some e := fun e he hl => by
      obtain ⟨j, hj, hje⟩ := List.getElem_of_mem he
      have hj2 : Q[j]? = some e := by rw [List.getElem?_eq_getElem hj, hje]
      refine ⟨j, ?_, hj2⟩
      by_cases hji : j < i
      · exact hji
      · have := m.sorted i j x e hx hj2 (by omega); omega
    induction r with
    | zero =>
      intro hn
      obtain ⟨j, h1, h2⟩ := low (a, []) (List.mem_of_getElem? h0) hn
      exact ⟨j, _, h1, h2, rfl, Nat.zero_le _⟩
    | step r0 hk hs ih =>
      intro hn
      obtain ⟨j, e, h1, h2, h3, h4⟩ := ih (by omega)
      obtain ⟨_, h5⟩ := m.proc j e h1 h2
      obtain ⟨e', h6, h7, h8⟩ := h5 _ hk _ (by rw [h3]; exact hs)
      obtain ⟨j', h9, h10⟩ := low e' h6 (by omega)
      exact ⟨j', e', h9, h10, h7, by omega⟩
  refine Nat.le_of_not_lt fun hlt => ?_
  obtain ⟨j, e, h1, h2, h3, _⟩ := key r hlt
  exact (m.proc j e h1 h2).1 (h3 ▸ hy)
theorem QInv.none {nxt : α → Nat → Option α} {goal : α → Prop} {Q : List (α × List β)} {a : α} (m : QInv nxt goal Q Q.length) (h0 : Q[0]? = some (a, [])) {n : Nat} {y : α} (r : Goes nxt a n y) : ¬ goal y := by
  have key : ∀ {n : Nat} {y : α}, Goes nxt a n y → ∃ j e, j < Q.length ∧ Q[j]? = some e ∧ e.1 = y := fun {n y} r => by
    induction r with
    | zero => exact ⟨0, _, (List.getElem?_eq_some_iff.1 h0).1, h0, rfl⟩
    | step r0 hk hs ih =>
      obtain ⟨j, e, h1, h2, h3⟩ := ih
      obtain ⟨_, h5⟩ := m.proc j e h1 h2
      obtain ⟨e', h6, h7, _⟩ := h5 _ hk _ (by rw [h3]; exact hs)
      obtain ⟨j', hj, hje⟩ := List.getElem_of_mem h6
      exact ⟨j', e', hj, by rw [List.getElem?_eq_getElem hj, hje], h7⟩
  obtain ⟨j, e, h1, h2, h3⟩ := key r
  intro hg
  exact (m.proc j e h1 h2).1 (h3 ▸ hg)
theorem stepW_first {nxt : α → Nat → Option α} {lt : Nat → β} {x : α × List β} {Q : List (α × List β)} {a : α × List β} (nd : (Q.map Prod.fst).Nodup) (h0 : Q[0]? = some a) : (stepW nxt lt x Q)[0]? = some a := by
  obtain ⟨⟨E, hE, _⟩, _, _⟩ := QMid.all (nxt := nxt) (lt := lt) (x := x) nd 4
  change stepW nxt lt x Q = Q ++ E at hE
  rw [hE, List.getElem?_append_left (List.getElem?_eq_some_iff.1 h0).1]
  exact h0
end
theorem nodup_le : ∀ (n : Nat) (L : List Nat), L.Nodup → (∀ x ∈ L, x < n) → L.length ≤ n
  | 0, L, _, h => by
    cases L with
    | nil => exact Nat.le_refl _
    | cons a r => have := h a (List.mem_cons_self ..); omega
  | n + 1, L, nd, h => by
    have h1 := nodup_le n (L.erase n) (nd.erase n) (fun x hx => by
      have hm := List.mem_of_mem_erase hx
      have hne : x ≠ n := fun e => by
        subst e
        exact (List.Nodup.not_mem_erase nd) hx
      have := h x hm
      omega)
    have h2 : L.length ≤ (L.erase n).length + 1 := by
      rw [List.length_erase]
      split <;> omega
    omega
end Go.DM

/- Masks of mown cells: a way that mows all grass is a way through the states (for FnTop). -/
set_option maxHeartbeats 4000000
namespace Go.DM
variable [Tok]
open Go.IntWalk
variable {w h : Int} {g : Nat → Int} {cs : List S}
def bitF (c : Cel) : List Cel → Nat → Nat
  | [], _ => 0
  | a :: r, i => if a = c then 2 ^ i else bitF c r (i + 1)
def bitC (L : List Cel) (c : Cel) : Nat := bitF c L 0
theorem bitF_not {c : Cel} : ∀ {L : List Cel} {i : Nat}, c ∉ L → bitF c L i = 0
  | [], _, _ => rfl
  | a :: r, i, h => by
    have h1 : ¬ a = c := fun e => h (by rw [e]; exact List.mem_cons_self ..)
    rw [bitF, if_neg h1]
    exact bitF_not fun k => h (List.mem_cons_of_mem _ k)
theorem bitF_at {c : Cel} : ∀ {L : List Cel} {i k : Nat}, L.Nodup → L[k]? = some c → bitF c L i = 2 ^ (i + k)
  | [], i, k, _, h => by simp at h
  | a :: r, i, 0, _, h => by
    have : a = c := by simpa using h
    rw [bitF, if_pos this]; rfl
  | a :: r, i, k + 1, nd, h => by
    obtain ⟨h1, h2⟩ := List.nodup_cons.1 nd
    have hk : r[k]? = some c := by simpa using h
    have hne : ¬ a = c := fun e => h1 (e ▸ List.mem_of_getElem? hk)
    rw [bitF, if_neg hne, bitF_at h2 hk]
    congr 1; omega
theorem nodup_inj {c : Cel} : ∀ {L : List Cel} {a b : Nat}, L.Nodup → L[a]? = some c → L[b]? = some c → a = b
  | [], a, b, _, h1, _ => by simp at h1
  | x :: r, 0, 0, _, _, _ => rfl
  | x :: r, 0, b + 1, nd, h1, h2 => by
    have e : x = c := by simpa using h1
    have h3 : r[b]? = some c := by simpa using h2
    exact absurd (e ▸ List.mem_of_getElem? h3) (List.nodup_cons.1 nd).1
  | x :: r, a + 1, 0, nd, h1, h2 => by
    have e : x = c := by simpa using h2
    have h3 : r[a]? = some c := by simpa using h1
    exact absurd (e ▸ List.mem_of_getElem? h3) (List.nodup_cons.1 nd).1
  | x :: r, a + 1, b + 1, nd, h1, h2 => by
    have := nodup_inj (a := a) (b := b) (List.nodup_cons.1 nd).2 (by simpa using h1) (by simpa using h2)
    rw [this]
theorem bitC_test {L : List Cel} (nd : L.Nodup) (c : Cel) (i : Nat) : (bitC L c).testBit i = true ↔ L[i]? = some c := by
  unfold bitC
  by_cases hm : c ∈ L
  · obtain ⟨k, hk, hkc⟩ := List.getElem_of_mem hm
    have hk2 : L[k]? = some c := by rw [List.getElem?_eq_getElem hk, hkc]
    rw [bitF_at nd hk2, Nat.zero_add, Nat.testBit_two_pow, decide_eq_true_iff]
    constructor
    · rintro rfl; exact hk2
    · intro h1
      exact (nodup_inj nd hk2 h1)
  · rw [bitF_not hm, Nat.zero_testBit]
    constructor
    · intro k; cases k
    · intro k; exact absurd (List.mem_of_getElem? k) hm
theorem bitC_lt {L : List Cel} (nd : L.Nodup) (c : Cel) : bitC L c < 2 ^ L.length := by
  unfold bitC
  by_cases hm : c ∈ L
  · obtain ⟨k, hk, hkc⟩ := List.getElem_of_mem hm
    have hk2 : L[k]? = some c := by rw [List.getElem?_eq_getElem hk, hkc]
    rw [bitF_at nd hk2, Nat.zero_add]
    exact Nat.pow_lt_pow_right (by decide) hk
  · rw [bitF_not hm]; exact Nat.pow_pos (by decide)
def nxtW (w h : Int) (g : Nat → Int) (L : List Cel) (x : Cel × Nat) (k : Nat) : Option (Cel × Nat) := if Opn w h g (nx x.1 (k : Nat)).1 (nx x.1 (k : Nat)).2 then some (nx x.1 (k : Nat), x.2 ||| bitC L (nx x.1 (k : Nat))) else none
def maskL (L : List Cel) : Nat → Cel → List UInt8 → Nat
  | m, _, [] => m
  | m, c, b :: s => maskL L (m ||| bitC L (nx c (lu b))) (nx c (lu b)) s
theorem goes_way {L : List Cel} {a : Cel × Nat} : ∀ {s : List UInt8} {c : Cel} {m n : Nat}, Lets s → Safe w h g s c → Goes (nxtW w h g L) a n (c, m) → Goes (nxtW w h g L) a (n + s.length) (endL c s, maskL L m c s)
  | [], c, m, n, _, _, r => r
  | b :: s, c, m, n, hl, hs, r => by
    have hb := hl b (List.mem_cons_self ..)
    have hb3 : lu b ≤ 3 := (lt_b _).2
    obtain ⟨k, hk⟩ : ∃ k : Nat, lu b = k := ⟨(lu b).toNat, by omega⟩
    have hn : nxtW w h g L (c, m) k = some (nx c (lu b), m ||| bitC L (nx c (lu b))) := by
      unfold nxtW
      simp only
      rw [← hk, if_pos hs.2.start]
    have := goes_way (L := L) (a := a) (s := s) (fun x hx => hl x (List.mem_cons_of_mem _ hx)) hs.2 (.step r (by omega) hn)
    rw [List.length_cons, show n + (s.length + 1) = n + 1 + s.length by omega]
    exact this
theorem maskL_test {L : List Cel} (nd : L.Nodup) : ∀ (s : List UInt8) (m : Nat) (c : Cel) (i : Nat), (maskL L m c s).testBit i = true ↔ m.testBit i = true ∨ ∃ j, 1 ≤ j ∧ j ≤ s.length ∧ L[i]? = some (endL c (s.take j))
  | [], m, c, i => by
    simp only [maskL, List.length_nil]
    exact ⟨fun k => .inl k, fun k => k.elim id fun ⟨j, h1, h2, _⟩ => by omega⟩
  | b :: s, m, c, i => by
    rw [maskL, maskL_test nd s, Nat.testBit_or, Bool.or_eq_true, bitC_test nd]
    constructor
    · rintro ((k | k) | ⟨j, h1, h2, h3⟩)
      · exact .inl k
      · exact .inr ⟨1, by omega, by simp, k⟩
      · exact .inr ⟨j + 1, by omega, by simpa using h2, h3⟩
    · rintro (k | ⟨j, h1, h2, h3⟩)
      · exact .inl (.inl k)
      · obtain ⟨j', rfl⟩ : ∃ j', j = j' + 1 := ⟨j - 1, by omega⟩
        by_cases h0 : j' = 0
        · subst h0; exact .inl (.inr h3)
        · exact .inr ⟨j', by omega, by simpa using h2, h3⟩
theorem maskL_lt {L : List Cel} (nd : L.Nodup) : ∀ (s : List UInt8) (m : Nat) (c : Cel), m < 2 ^ L.length → maskL L m c s < 2 ^ L.length
  | [], m, c, hm => hm
  | b :: s, m, c, hm => maskL_lt nd s _ _ (Nat.or_lt_two_pow hm (bitC_lt nd _))
theorem all_bits {n m : Nat} (hm : m < 2 ^ n) : m = 2 ^ n - 1 ↔ ∀ i, i < n → m.testBit i = true := by
  constructor
  · rintro rfl i hi
    rw [Nat.testBit_two_pow_sub_one, decide_eq_true_iff]; exact hi
  · intro hh
    apply Nat.eq_of_testBit_eq
    intro i
    rw [Nat.testBit_two_pow_sub_one]
    by_cases hi : i < n
    · rw [hh i hi, decide_eq_true hi]
    · rw [decide_eq_false hi]
      exact Nat.testBit_lt_two_pow (Nat.lt_of_lt_of_le hm (Nat.pow_le_pow_right (by decide) (by omega)))
theorem whole_mask (hs : 0 ≤ w) {c : Cel} {s : List UInt8} (hsf : Safe w h g s c) : (leftL w h g (trk s c s.length)).length = 0 ↔ maskL (ofKind w h g 0) (bitC (ofKind w h g 0) c) c s = 2 ^ (ofKind w h g 0).length - 1 := by
  have nd : (ofKind w h g 0).Nodup := (allC_nodup (h := h) hs).filter _
  have hlt := maskL_lt nd s (bitC (ofKind w h g 0) c) c (bitC_lt nd c)
  rw [all_bits hlt]
  have hvis : ∀ e : Cel, e ∈ trk s c s.length ↔ ∃ j, j ≤ s.length ∧ e = endL c (s.take j) := fun e => by
    constructor
    · intro he
      obtain ⟨j, h1, h2⟩ := trk_mem he
      exact ⟨j, h1, by rw [h2, at_endL s c j h1]⟩
    · rintro ⟨j, h1, h2⟩
      have hlen := trk_len s c s.length
      have h3 : gC (trk s c s.length) j = endL c (s.take j) := by
        have h4 : (trk s c s.length).take (j + 1) = trk s c j := by
          have : ∀ m, j ≤ m → (trk s c m).take (j + 1) = trk s c j := fun m => by
            induction m with
            | zero => intro hm; obtain rfl : j = 0 := by omega
                      rfl
            | succ m ih =>
              intro hm
              by_cases e : j = m + 1
              · subst e; exact List.take_of_length_le (by rw [trk_len]; omega)
              · rw [trk, List.take_append_of_le_length (by rw [trk_len]; omega)]; exact ih (by omega)
          exact this s.length h1
        rw [← at_endL s c j h1]
        have h5 : gC (trk s c j) j = at_ s c j := rfl
        rw [← h5, ← h4]
        simp only [gC, List.getD_eq_getElem?_getD]
        rw [List.getElem?_take_of_lt (by omega)]
      rw [h2, ← h3]
      exact gC_mem (by omega)
  constructor
  · intro h0 i hi
    rw [maskL_test nd, bitC_test nd]
    have hg : (ofKind w h g 0)[i]? = some (gC (ofKind w h g 0) i) := gC_get hi
    have hm := gC_mem hi
    generalize gC (ofKind w h g 0) i = e at hg hm
    have hin : e ∈ trk s c s.length := by
      refine Decidable.byContradiction fun hn => ?_
      have h1 := List.mem_filter.1 hm
      have : e ∈ leftL w h g (trk s c s.length) := by
        unfold leftL those
        rw [List.mem_filter]
        refine ⟨h1.1, ?_⟩
        simp only [decide_eq_true_eq]
        exact ⟨⟨allC_mem h1.1, by simpa using h1.2⟩, hn⟩
      rw [List.length_eq_zero_iff.1 h0] at this
      cases this
    obtain ⟨j, h1, h2⟩ := (hvis e).1 hin
    by_cases hj : j = 0
    · subst hj
      have h3 : e = c := h2
      rw [h3] at hg
      exact .inl hg
    · exact .inr ⟨j, by omega, h1, by rw [hg, h2]⟩
  · intro hh
    rw [List.length_eq_zero_iff]
    unfold leftL those
    rw [List.filter_eq_nil_iff]
    intro e he hd
    simp only [decide_eq_true_eq] at hd
    obtain ⟨⟨hH, hk⟩, hn⟩ := hd
    have hm : e ∈ ofKind w h g 0 := by
      unfold ofKind
      rw [List.mem_filter]
      exact ⟨he, by simpa [ix] using hk⟩
    obtain ⟨i, hi, hie⟩ := List.getElem_of_mem hm
    have hg : (ofKind w h g 0)[i]? = some e := by rw [List.getElem?_eq_getElem hi, hie]
    have h1 := hh i hi
    rw [maskL_test nd, bitC_test nd] at h1
    apply hn
    rw [hvis]
    rcases h1 with h1 | ⟨j, _, h2, h3⟩
    · rw [hg] at h1
      exact ⟨0, Nat.zero_le _, by cases h1; rfl⟩
    · rw [hg] at h3
      exact ⟨j, h2, by cases h3; rfl⟩
end Go.DM
