/- Steps from a cell: one way of counting them, on plain data; the reference's side. -/
import Derived.Test.YtaocbbdkiemhaaaK356Those
import Derived.Test.YtaocbbdkiemhaaaK356All
import Derived.Test.YtaocbbdkiemhaaaK356Most
import Derived.Test.YtaocbbdkiemhaaaK356Trap
set_option linter.unusedSimpArgs false
set_option linter.unusedVariables false
set_option maxHeartbeats 4000000
namespace Go.DM
set_option linter.unusedSectionVars false
variable [Tok]
open Go.IntWalk
variable {w h : Int} {g : Nat → Int} {cs : List S}

def visit (ok : Cel → Prop) [DecidablePred ok] (c : Cel) (s : (Nat → Int) × List Cel) (e : Cel) : (Nat → Int) × List Cel :=
  if ok e ∧ s.1 (ix e) < 0 then (gset s.1 (ix e) (s.1 (ix c) + 1), s.2 ++ [e]) else s
def bfs (ok : Cel → Prop) [DecidablePred ok] : Nat → (Nat → Int) × List Cel → (Nat → Int)
  | 0, s => s.1
  | _ + 1, (d, []) => d
  | n + 1, (d, c :: r) => bfs ok n ((Near c.1 c.2).foldl (visit ok c) (d, r))
/-- The steps from a cell to each cell, -1 where there are none. -/
def far (ok : Cel → Prop) [DecidablePred ok] (c : Cel) : Nat → Int := bfs ok 100 (gset (fun _ => -1) (ix c) 0, [c])
theorem bfs_end (ok : Cel → Prop) [DecidablePred ok] (d : Nat → Int) : ∀ n, bfs ok n (d, []) = d
  | 0 => rfl
  | n + 1 => rfl
def unk (d : Nat → Int) : Nat := ((List.range 100).filter fun k => decide (d k < 0)).length
theorem unk_cons (p p' : Nat → Bool) {k : Nat} : ∀ l : List Nat, l.Nodup → k ∈ l → p k = true → p' k = false → (∀ i, i ≠ k → p' i = p i) → (l.filter p').length + 1 = (l.filter p).length
  | [], _, h, _, _, _ => by cases h
  | x :: r, hn, hm, h1, h2, h3 => by
    rw [List.nodup_cons] at hn
    by_cases e : x = k
    · subst e
      have : r.filter p' = r.filter p := List.filter_congr fun i hi => h3 i fun e => by subst e; exact hn.1 hi
      simp [List.filter_cons, h1, h2, this]
    · have hm' : k ∈ r := by
        rcases List.mem_cons.1 hm with h | h
        · exact absurd h.symm e
        · exact h
      have ih := unk_cons p p' r hn.2 hm' h1 h2 h3
      rw [List.filter_cons, List.filter_cons, h3 x e]
      split <;> simp_all
theorem unk_set {d : Nat → Int} {k : Nat} {v : Int} (hk : k < 100) (h : d k < 0) (hv : 0 ≤ v) : unk (gset d k v) + 1 = unk d := by
  unfold unk
  refine unk_cons _ _ _ List.nodup_range (List.mem_range.2 hk) (by simpa using h) (by simp [gset]; omega) fun i hi => by simp [gset, hi]
structure BInv (w h : Int) (d : Nat → Int) (qu : List Cel) : Prop where
  lo : ∀ k, -1 ≤ d k
  hi : ∀ k, d k + unk d ≤ 100
  q : ∀ c ∈ qu, Has w h c.1 c.2 ∧ 0 ≤ d (ix c)
  len : qu.length + unk d ≤ 100
theorem BInv.push {d : Nat → Int} {qu : List Cel} (hs : w ≤ 10 ∧ h ≤ 10) (b : BInv w h d qu) {c e : Cel} (hc : c ∈ qu) (he : Has w h e.1 e.2) (hd : d (ix e) < 0) : BInv w h (gset d (ix e) (d (ix c) + 1)) (qu ++ [e]) ∧ unk (gset d (ix e) (d (ix c) + 1)) + 1 = unk d := by
  have h1 := b.q c hc
  have hk : ix e < 100 := by have := he; simp only [Has] at this; simp only [ix]; omega
  have hu := unk_set (v := d (ix c) + 1) hk hd (by omega)
  refine ⟨⟨fun k => ?_, fun k => ?_, fun a ha => ?_, ?_⟩, hu⟩
  · simp only [gset]; split
    · omega
    · exact b.lo k
  · have h2 := b.hi k
    have h3 := b.hi (ix c)
    simp only [gset] at hu ⊢; split <;> omega
  · rw [List.mem_append, List.mem_singleton] at ha
    rcases ha with ha | rfl
    · refine ⟨(b.q a ha).1, ?_⟩
      simp only [gset]; split
      · omega
      · exact (b.q a ha).2
    · exact ⟨he, by simp only [gset, if_true]; omega⟩
  · have := b.len
    rw [List.length_append, List.length_singleton]; omega
theorem BInv.first {c : Cel} (hs : w ≤ 10 ∧ h ≤ 10) (hc : Has w h c.1 c.2) : BInv w h (gset (fun _ => -1) (ix c) 0) [c] ∧ unk (gset (fun _ => -1) (ix c) 0) = 99 := by
  have hk : ix c < 100 := by have := hc; simp only [Has] at this; simp only [ix]; omega
  have hu := unk_set (d := fun _ => -1) (k := ix c) (v := 0) hk (by omega) (by omega)
  have h0 : unk (fun _ => -1) = 100 := by decide
  refine ⟨⟨fun k => ?_, fun k => ?_, fun a ha => ?_, ?_⟩, by omega⟩
  · simp only [gset]; split <;> omega
  · simp only [gset] at hu ⊢; split <;> omega
  · rw [List.mem_singleton] at ha; subst ha; exact ⟨hc, by simp [gset]⟩
  · simp; omega
theorem fold_skip {α β : Type} {f : β → α → β} {p : α → Bool} (hf : ∀ s e, p e = false → f s e = s) : ∀ (l : List α) (s : β), (l.filter p).foldl f s = l.foldl f s
  | [], s => rfl
  | x :: r, s => by
    rw [List.filter_cons, List.foldl_cons]
    split
    · rw [List.foldl_cons]; exact fold_skip hf r _
    · rename_i h
      rw [hf s x (by simpa using h)]; exact fold_skip hf r s
theorem fold_snoc {α β : Type} {f : β → α → β} {l : List α} {i : Nat} {a : α} (s : β) (h : l[i]? = some a) : (l.take (i + 1)).foldl f s = f ((l.take i).foldl f s) a := by
  rw [List.take_add_one, h, List.foldl_append]; rfl
/-- To which cells steps may go, for the reference: open ones, or grass alone. -/
def okS (w h : Int) (g : Nat → Int) (b : Bool) (c : Cel) : Prop := Has w h c.1 c.2 ∧ (g (ix c) = 0 ∨ (b = false ∧ g (ix c) = 3))
instance (w h : Int) (g : Nat → Int) (b : Bool) : DecidablePred (okS w h g b) := fun c => inferInstanceAs (Decidable (_ ∧ _))
theorem inside_fold (b : Bool) (c : Cel) (s : (Nat → Int) × List Cel) : (inside w h (Near c.1 c.2)).foldl (visit (okS w h g b) c) s = (Near c.1 c.2).foldl (visit (okS w h g b) c) s := by
  unfold inside
  refine fold_skip (fun s e he => ?_) _ _
  have : ¬ Has w h e.1 e.2 := by simpa using he
  simp only [visit]
  rw [if_neg fun hh => this hh.1.1]
theorem bfs_step {ok : Cel → Prop} [DecidablePred ok] {d : Nat → Int} {qu : List Cel} {i n : Nat} (hi : i < qu.length) : bfs ok (n + 1) (d, qu.drop i) = bfs ok n ((Near (gC qu i).1 (gC qu i).2).foldl (visit ok (gC qu i)) (d, qu.drop (i + 1))) := by
  have : qu.drop i = gC qu i :: qu.drop (i + 1) := by
    have h1 := gC_get hi
    obtain ⟨h2, h3⟩ := List.getElem?_eq_some_iff.1 h1
    rw [List.drop_eq_getElem_cons h2, h3]
  rw [this]; rfl
theorem inside_has {c e : Cel} (he : e ∈ inside w h (Near c.1 c.2)) : Has w h e.1 e.2 := by
  unfold inside at he; rw [List.mem_filter] at he; simpa using he.2

theorem gC_left {l r : List Cel} {i : Nat} (hi : i < l.length) : gC (l ++ r) i = gC l i := by
  simp [gC, List.getD_eq_getElem?_getD, List.getElem?_append_left hi]
theorem okS_no {b : Bool} {c : Cel} (hn : ¬ (g (ix c) = 0 ∨ g (ix c) = 3) ∨ (b = true ∧ ¬ g (ix c) = 0)) : ¬ okS w h g b c := by
  rintro ⟨_, h1⟩
  rcases hn with h2 | ⟨rfl, h2⟩
  · exact h2 (h1.imp id fun h => h.2)
  · rcases h1 with h1 | h1
    · exact h2 h1
    · cases h1.1
theorem visit_no {ok : Cel → Prop} [DecidablePred ok] {c e : Cel} {s : (Nat → Int) × List Cel} (hn : ¬ ok e ∨ 0 ≤ s.1 (ix e)) : visit ok c s e = s := by
  unfold visit
  rw [if_neg (by rintro ⟨h1, h2⟩; rcases hn with h | h; exact h h1; omega)]
theorem visit_yes {ok : Cel → Prop} [DecidablePred ok] {c e : Cel} {s : (Nat → Int) × List Cel} (h1 : ok e) (h2 : s.1 (ix e) < 0) : visit ok c s e = (gset s.1 (ix e) (s.1 (ix c) + 1), s.2 ++ [e]) := by
  unfold visit
  rw [if_pos ⟨h1, h2⟩]
theorem grid_congr {k : IntKind} {q q' : Nat → Int} (h : ∀ i, i < 100 → q i = q' i) : grid k q = grid k q' := by
  unfold grid
  apply List.map_congr_left
  intro i hi
  rw [h i (List.mem_range.1 hi)]
end Go.DM

/- Steps from a cell: the program's side. -/
set_option linter.unusedSimpArgs false
set_option linter.unusedVariables false
set_option maxHeartbeats 4000000
namespace Go.DM
set_option linter.unusedSectionVars false
variable [Tok]
open Go.IntWalk
variable {w h : Int} {g : Nat → Int} {cs : List S}

/-- Numbers of cells, behind each other. -/
def outI (w : Int) (d : Nat → Int) : Nat → Int := fun i => d (10 * (i / w.toNat) + i % w.toNat)
theorem mul_b (hs : 0 ≤ w ∧ w ≤ 10 ∧ 0 ≤ h ∧ h ≤ 10) : 0 ≤ w * h ∧ w * h ≤ 100 := by
  obtain ⟨W, rfl⟩ : ∃ W : Nat, w = W := ⟨w.toNat, by omega⟩
  obtain ⟨H, rfl⟩ : ∃ H : Nat, h = H := ⟨h.toNat, by omega⟩
  have h3 : W * H ≤ 10 * 10 := Nat.mul_le_mul (by omega) (by omega)
  have e : ((W * H : Nat) : Int) = (W : Int) * H := by simp
  omega
theorem idx_b (hs : 0 ≤ w ∧ w ≤ 10 ∧ 0 ≤ h ∧ h ≤ 10) {x y : Int} (hh : Has w h x y) : 0 ≤ y * w + x ∧ y * w + x < w * h := by
  simp only [Has] at hh
  obtain ⟨W, rfl⟩ : ∃ W : Nat, w = W := ⟨w.toNat, by omega⟩
  obtain ⟨H, rfl⟩ : ∃ H : Nat, h = H := ⟨h.toNat, by omega⟩
  obtain ⟨X, rfl⟩ : ∃ X : Nat, x = X := ⟨x.toNat, by omega⟩
  obtain ⟨Y, rfl⟩ : ∃ Y : Nat, y = Y := ⟨y.toNat, by omega⟩
  have h3 : (Y + 1) * W ≤ H * W := Nat.mul_le_mul_right W (by omega)
  have e1 : ((Y * W : Nat) : Int) = (Y : Int) * W := by simp
  have e2 : ((H * W : Nat) : Int) = (W : Int) * H := by simp [Int.mul_comm]
  rw [Nat.succ_mul] at h3
  omega
theorem div_idx {W x y : Nat} (hx : x < W) : (y * W + x) / W = y ∧ (y * W + x) % W = x := by
  refine ⟨?_, ?_⟩
  · rw [Nat.add_comm, Nat.add_mul_div_right _ _ (by omega), Nat.div_eq_of_lt hx, Nat.zero_add]
  · rw [Nat.add_comm, Nat.add_mul_mod_self_right, Nat.mod_eq_of_lt hx]
theorem idx_nat {x y : Int} (hh : Has w h x y) : (y * w + x).toNat = y.toNat * w.toNat + x.toNat := by
  simp only [Has] at hh
  obtain ⟨W, rfl⟩ : ∃ W : Nat, w = W := ⟨w.toNat, by omega⟩
  obtain ⟨X, rfl⟩ : ∃ X : Nat, x = X := ⟨x.toNat, by omega⟩
  obtain ⟨Y, rfl⟩ : ∃ Y : Nat, y = Y := ⟨y.toNat, by omega⟩
  have e1 : ((Y * W : Nat) : Int) = (Y : Int) * W := by simp
  simp only [Int.toNat_natCast]
  omega
theorem outI_get {d : Nat → Int} {x y : Int} (hh : Has w h x y) : outI w d (y * w + x).toNat = d (10 * y.toNat + x.toNat) := by
  rw [idx_nat hh]
  have := div_idx (W := w.toNat) (x := x.toNat) (y := y.toNat) (by simp only [Has] at hh; omega)
  simp only [outI, this.1, this.2]
theorem outI_set {d : Nat → Int} {c : Cel} {v : Int} (hs : w ≤ 10) (hh : Has w h c.1 c.2) : gset (outI w d) (c.2 * w + c.1).toNat v = outI w (gset d (ix c) v) := by
  funext i
  rw [idx_nat hh]
  have hx : c.1.toNat < w.toNat := by simp only [Has] at hh; omega
  have hd := div_idx (y := c.2.toNat) hx
  have hm := Nat.mod_lt i (show 0 < w.toNat by omega)
  have hdm := Nat.div_add_mod i w.toNat
  simp only [gset, outI, ix]
  by_cases e : i = c.2.toNat * w.toNat + c.1.toNat
  · rw [if_pos e, if_pos (by rw [e, hd.1, hd.2])]
  · rw [if_neg e, if_neg]
    intro e2
    have h1 : i / w.toNat = c.2.toNat := by omega
    have h2 : i % w.toNat = c.1.toNat := by omega
    exact e (by rw [← hdm, h1, h2, Nat.mul_comm])
theorem mul_1 (hs : 1 ≤ w ∧ 1 ≤ h) : 1 ≤ w * h := by
  obtain ⟨W, rfl⟩ : ∃ W : Nat, w = W := ⟨w.toNat, by omega⟩
  obtain ⟨H, rfl⟩ : ∃ H : Nat, h = H := ⟨h.toNat, by omega⟩
  have h3 : 1 * 1 ≤ W * H := Nat.mul_le_mul (by omega) (by omega)
  have e : ((W * H : Nat) : Int) = (W : Int) * H := by simp
  omega
/-- To which cells steps may go. -/
def okP (w h : Int) (P : Cel → Prop) (c : Cel) : Prop := Has w h c.1 c.2 ∧ P c
instance (w h : Int) (P : Cel → Prop) [DecidablePred P] : DecidablePred (okP w h P) := fun c => inferInstanceAs (Decidable (_ ∧ _))

theorem drop_gC {l : List Cel} {k : Nat} (hk : k < l.length) : l.drop k = gC l k :: l.drop (k + 1) := by
  have h1 := gC_get hk
  obtain ⟨h2, h3⟩ := List.getElem?_eq_some_iff.1 h1
  rw [List.drop_eq_getElem_cons h2, h3]
end Go.DM

/- The reference's code of cells that have to be open. -/
set_option linter.unusedSimpArgs false
set_option linter.unusedVariables false
set_option maxHeartbeats 4000000
namespace Go.DM
set_option linter.unusedSectionVars false
variable [Tok]
open Go.IntWalk
variable {w h : Int} {g : Nat → Int} {cs : List S}
theorem all_snoc {p : Cel → Prop} {L : List Cel} {i : Nat} (hi : i < L.length) : (∀ c ∈ L.take (i + 1), p c) ↔ (∀ c ∈ L.take i, p c) ∧ p (gC L i) := by
  rw [List.take_add_one, gC_get hi]
  simp only [Option.toList_some, List.mem_append, List.mem_singleton]
  constructor
  · intro h; exact ⟨fun c hc => h c (.inl hc), h _ (.inr rfl)⟩
  · rintro ⟨h1, h2⟩ c (hc | rfl)
    · exact h1 c hc
    · exact h2
theorem bstep_t {b : Bool} {A A' p : Prop} (h1 : b = true ↔ A) (h2 : A' ↔ A ∧ p) (hb : b = true) (hp : p) : true = true ↔ A' := ⟨fun _ => h2.2 ⟨h1.1 hb, hp⟩, fun _ => rfl⟩
theorem bstep_f {b : Bool} {A A' p : Prop} (h1 : b = true ↔ A) (h2 : A' ↔ A ∧ p) (hn : b = false ∨ ¬ p) : false = true ↔ A' := ⟨fun h => (nomatch h), fun h => by
  have h3 := h2.1 h
  rcases hn with hn | hn
  · have := h1.2 h3.1; rw [hn] at this; exact this
  · exact absurd h3.2 hn⟩
abbrev InB (c : Cel) : Prop := -128 ≤ c.1 ∧ c.1 ≤ 127 ∧ -128 ≤ c.2 ∧ c.2 ≤ 127
end Go.DM

/- The least battery: both sides, the statement. -/
set_option linter.unusedSimpArgs false
set_option linter.unusedVariables false
set_option maxHeartbeats 4000000
namespace Go.DM
set_option linter.unusedSectionVars false
variable [Tok]
open Go.IntWalk
variable {w h : Int} {g : Nat → Int} {cs : List S}

theorem visit_inv {ok : Cel → Prop} [DecidablePred ok] (hs : w ≤ 10 ∧ h ≤ 10) (hok : ∀ e, ok e → Has w h e.1 e.2) {c e : Cel} {s : (Nat → Int) × List Cel} (b : BInv w h s.1 (c :: s.2)) : BInv w h (visit ok c s e).1 (c :: (visit ok c s e).2) := by
  unfold visit
  split
  · rename_i hh
    have := (b.push hs (List.mem_cons_self ..) (hok e hh.1) hh.2).1
    exact this
  · exact b
theorem fold_inv {ok : Cel → Prop} [DecidablePred ok] (hs : w ≤ 10 ∧ h ≤ 10) (hok : ∀ e, ok e → Has w h e.1 e.2) {c : Cel} : ∀ (L : List Cel) {s : (Nat → Int) × List Cel}, BInv w h s.1 (c :: s.2) → BInv w h (L.foldl (visit ok c) s).1 (c :: (L.foldl (visit ok c) s).2)
  | [], s, b => b
  | e :: r, s, b => fold_inv hs hok r (visit_inv hs hok b)
theorem bfs_b {ok : Cel → Prop} [DecidablePred ok] (hs : w ≤ 10 ∧ h ≤ 10) (hok : ∀ e, ok e → Has w h e.1 e.2) : ∀ (n : Nat) {s : (Nat → Int) × List Cel}, BInv w h s.1 s.2 → ∀ k, -1 ≤ bfs ok n s k ∧ bfs ok n s k ≤ 100
  | 0, s, b, k => ⟨b.lo k, by have := b.hi k; simp only [bfs]; omega⟩
  | n + 1, (d, []), b, k => ⟨b.lo k, by have := b.hi k; simp only [bfs] at *; omega⟩
  | n + 1, (d, c :: r), b, k => by
    have h1 := fold_inv hs hok (Near c.1 c.2) (s := (d, r)) b
    exact bfs_b hs hok n ⟨h1.lo, h1.hi, fun a ha => h1.q a (List.mem_cons_of_mem _ ha), by have := h1.len; rw [List.length_cons] at this; omega⟩ k
theorem far_b {ok : Cel → Prop} [DecidablePred ok] (hs : w ≤ 10 ∧ h ≤ 10) (hok : ∀ e, ok e → Has w h e.1 e.2) {c : Cel} (hc : Has w h c.1 c.2) (k : Nat) : -1 ≤ far ok c k ∧ far ok c k ≤ 100 :=
  bfs_b hs hok 100 (BInv.first hs hc).1 k
theorem far_congr {ok ok' : Cel → Prop} [d1 : DecidablePred ok] [d2 : DecidablePred ok'] (hh : ∀ c, ok c ↔ ok' c) (c : Cel) : far ok c = far ok' c := by
  have e : ok = ok' := funext fun c => propext (hh c)
  subst e
  have : d1 = d2 := Subsingleton.elim _ _
  rw [this]
/-- Steps over open cells. -/
def steps (w h : Int) (g : Nat → Int) (c : Cel) : Nat → Int := far (okS w h g false) c
theorem steps_eq (c : Cel) : far (okP w h fun c => Opn w h g c.1 c.2) c = steps w h g c := by
  unfold steps
  refine far_congr (fun e => ?_) c
  simp only [okP, okS, Opn, ix]
  constructor
  · rintro ⟨h1, _, h2⟩; exact ⟨h1, h2.imp id fun h => ⟨trivial, h⟩⟩
  · rintro ⟨h1, h2⟩; exact ⟨h1, h1, h2.imp id fun h => h.2⟩
theorem steps_b (hs : w ≤ 10 ∧ h ≤ 10) {c : Cel} (hc : Has w h c.1 c.2) (k : Nat) : -1 ≤ steps w h g c k ∧ steps w h g c k ≤ 100 := far_b hs (fun e he => he.1) hc k
def mostD (d : Nat → Int) (L : List Cel) : Int := L.foldl (fun s c => max s (d (ix c))) 0
theorem mostD_snoc (d : Nat → Int) {L : List Cel} {i : Nat} (hi : i < L.length) : mostD d (L.take (i + 1)) = max (mostD d (L.take i)) (d (ix (gC L i))) := by
  unfold mostD; rw [fold_snoc _ (gC_get hi)]
theorem mostD_b {d : Nat → Int} (hd : ∀ k, d k ≤ 100) : ∀ (L : List Cel) (s : Int), 0 ≤ s ∧ s ≤ 100 → 0 ≤ L.foldl (fun s c => max s (d (ix c))) s ∧ L.foldl (fun s c => max s (d (ix c))) s ≤ 100
  | [], s, h => h
  | c :: r, s, h => mostD_b hd r (max s (d (ix c))) (by have := hd (ix c); omega)

/-- The code of one cell that has to be open. -/
def openC (w h : Int) (g : Nat → Int) (c : Cel) : Int := belowCode (LawnOk w h g) (Has w h c.1 c.2) (Opn w h g c.1 c.2)
theorem openC_impl (c : Cel) : belowCode (LawnOk w h g) (∀ e ∈ ([c] : List Cel), Has w h e.1 e.2) (∀ e ∈ ([c] : List Cel), Opn w h g e.1 e.2) = openC w h g c := belowCode_congr Iff.rfl (by simp) (by simp)
theorem openC_spec (c : Cel) : belowCode (LawnOk w h g) (true = true ∧ ∀ e ∈ ([c] : List Cel), Has w h e.1 e.2) (∀ e ∈ ([c] : List Cel), Opn w h g e.1 e.2) = openC w h g c := belowCode_congr Iff.rfl (by simp) (by simp)
theorem openC_ok {c : Cel} (h0 : openC w h g c = 0) : (1 ≤ w ∧ w ≤ 10 ∧ 1 ≤ h ∧ h ≤ 10) ∧ Has w h c.1 c.2 ∧ Opn w h g c.1 c.2 := by
  obtain ⟨h1, h2, h3⟩ := belowCode_zero.1 h0
  exact ⟨⟨h1.1.1, h1.1.2, h1.2.1.1, h1.2.1.2⟩, h2, h3⟩
def batRes (w h : Int) (g : Nat → Int) (c : Cel) : Res := if openC w h g c = 0 then ⟨[.s (.int .i64 (2 * mostD (steps w h g c) (ofKind w h g 0))), .s (.int .i64 0)], []⟩ else ⟨[.s (.int .i64 0), .s (.int .i64 (openC w h g c))], []⟩
end Go.DM

/- Rows of two walks; walks that are right, on both sides. -/
set_option linter.unusedSimpArgs false
set_option linter.unusedVariables false
set_option maxHeartbeats 4000000
namespace Go.DM
set_option linter.unusedSectionVars false
variable [Tok]
open Go.IntWalk
section
variable {Γ : Nat → Option Fn} {dsts : Nat → Option Nat} {ops : List Oper} {Q : St → Prop} {σ : St} {d : Option Nat} {g : Option (Nat × Bool)} {l1 l2 l3 l4 : List Nat}
theorem noPar_putr {o p : Nat} {xs : List A} (h : noPar σ [o] = true) : noPar (put p (.row xs) σ) [o] = true := by
  rw [noPar_one] at h ⊢
  intro cs' e
  simp only [put, upd] at e
  split at e
  · cases e
  · exact h _ e
theorem WR.bw {e : Nat} {a0 a1 : Opd} {x0 x1 : A} (hw : wanted dsts σ.env g = some true) (h0 : partV (ev σ.env a0) = some x0) (h1 : partV (ev σ.env a1) = some x1) (hd0 : deadA [e] x0 = false) (hd1 : deadA [e] x1 = false) (hp : noPar σ [e] = true)
    (k : WR Γ dsts ops Q (set (some e) (.a (.sl e 0 2 1)) (put e (.row [x0, x1]) (kill [e] σ)))) : WR Γ dsts (⟨some e, .bslr 2 [(0, a0), (1, a1)], g, l1, l2, l3, l4⟩ :: ops) Q σ :=
  WR.mk (d := e) (ob := .row [x0, x1]) hw rfl rfl (by simp [makes, all?, h0, h1, inOrder, hd0, hd1]) hp k
theorem WR.rn {p n e : Nat} {a : Opd} {cs : List S} (hw : wanted dsts σ.env g = some true) (ha : ev σ.env a = .a (.sl p 0 n 2)) (ho : σ.objs p = some (.flat false cs)) (hne : Nat.beq p e = false) (hp : noPar σ [p] = true) (hp' : noPar σ [e] = true)
    (k : WR Γ dsts ops Q (set (some e) (.a (.sl e 0 n 2)) (put e (.flat false cs) (kill [p, e] σ)))) : WR Γ dsts (⟨some e, .ren a, g, l1, l2, l3, l4⟩ :: ops) Q σ := by
  have hne' : p ≠ e := Nat.ne_of_beq_eq_false hne
  refine WR.cons ⟨0, step_dl (r := ⟨.a (.sl e 0 n 2), [p, e], [(e, .flat false cs)]⟩) hw (by simp only [delta, ha, ho]; rw [if_neg hne']) ?_⟩ k
  simp only [noPar, List.all_cons, List.all_nil, Bool.and_true, Bool.and_eq_true] at hp hp' ⊢
  exact ⟨hp, hp'⟩
theorem elemsC {objs : Nat → Option Ob} {v : V} {m : List Cel} (hv : v = .a (.d (.sl m.length 2 (encC m)))) : elems objs 2 v = some (m.length, encC m) := by
  subst hv; simp only [elems]; rw [if_pos ⟨trivial, encC_length m⟩]
theorem elemsCo {objs : Nat → Option Ob} {v : V} {m : List Cel} {o : Nat} {b : Bool} (hv : v = .a (.sl o 0 m.length 2)) (ho : objs o = some (.flat b (encC m))) : elems objs 2 v = some (m.length, encC m) := by
  subst hv
  have hl := encC_length m
  simp only [elems, ho]; rw [if_pos ⟨trivial, by omega⟩, List.drop_zero, ← hl, List.take_length]
theorem WR.apA {p n : Nat} {a b : Opd} {l m : List Cel} (hw : wanted dsts σ.env g = some true) (ha : ev σ.env a = .a (.sl p 0 n 2)) (ho : σ.objs p = some (.flat false (encC l))) (hn : n = l.length) (hb : elems σ.objs 2 (ev σ.env b) = some (m.length, encC m)) (h2 : l.length + m.length ≤ 3000000)
    (k : WR Γ dsts ops Q (set d (.a (.sl p 0 (l ++ m).length 2)) (put p (.flat false (encC (l ++ m))) (kill [p] σ)))) : WR Γ dsts (⟨d, .app 2 a b, g, l1, l2, l3, l4⟩ :: ops) Q σ := by
  subst hn
  have hl := encC_length l
  refine WR.ap hw ha ho hb (by omega) (by simp only [big]; omega) (by rw [noPar_one]; intro cs e; rw [ho] at e; cases e) ?_
  rw [List.drop_zero, show l.length * 2 = (encC l).length by omega, List.take_length, ← encC_append, ← List.length_append]
  exact k
theorem toD_row2 {k : Nat} {objs : Nat → Option Ob} {v : V} {o : Nat} {x y : A} {d1 d2 : D} (hv : v = .a (.sl o 0 2 1)) (ho : objs o = some (.row [x, y])) (h1 : toDV objs k (.a x) = some d1) (h2 : toDV objs k (.a y) = some d2) : toDV objs (k + 1) v = some (.sld [d1, d2]) := by
  subst hv
  simp [toDV, toDA, ho, all?, h1, h2]
end

/-- Two walks. -/
def wD (c : List Cel) : D := .sl c.length 2 (encC c)
def aws (a b : List Cel) : Arg := .d (.sld [wD a, wD b])

variable {w h : Int} {g : Nat → Int} {cs : List S}
/-- Where a robot is; robots that clash. -/
def whr (a : List Cel) (t : Nat) : Cel := gC a (min t (a.length - 1))
def Clash (a b : List Cel) (t : Nat) : Prop := whr a t = whr b t ∨ (0 < t ∧ whr a t = whr b (t - 1) ∧ whr a (t - 1) = whr b t)
instance (a b : List Cel) (t : Nat) : Decidable (Clash a b t) := inferInstanceAs (Decidable (_ ∨ _))

theorem toNat_pred (t : Nat) : ((t : Int) - 1).toNat = t - 1 := by omega
theorem cel_eq {p q : Cel} : p = q ↔ p.1 = q.1 ∧ p.2 = q.2 := ⟨fun h => by rw [h]; exact ⟨rfl, rfl⟩, fun h => Prod.ext h.1 h.2⟩

/-! A walk that is right. -/
def Bes (p q : Cel) : Prop := (p.1 - q.1) * (p.1 - q.1) + (p.2 - q.2) * (p.2 - q.2) ≤ 1
instance (p q : Cel) : Decidable (Bes p q) := inferInstanceAs (Decidable (_ ≤ _))
theorem sq_small {x : Int} (hx : -300 ≤ x ∧ x ≤ 300) : 0 ≤ x * x ∧ x * x ≤ 90000 := by
  have hn : x.natAbs ≤ 300 := by omega
  have h := Nat.mul_le_mul hn hn
  have e := Int.natAbs_mul_self (a := x)
  omega
def GoodAt (w h : Int) (g : Nat → Int) (a : List Cel) (i : Nat) : Prop := Opn w h g (gC a i).1 (gC a i).2 ∧ (0 < i → Bes (gC a (i - 1)) (gC a i))
instance (a : List Cel) (i : Nat) : Decidable (GoodAt w h g a i) := inferInstanceAs (Decidable (_ ∧ _))
def WalkOk (w h : Int) (g : Nat → Int) (a : List Cel) : Prop := (∀ i, i < a.length → GoodAt w h g a i) ∧ 0 < a.length
instance (a : List Cel) : Decidable (WalkOk w h g a) := inferInstanceAs (Decidable ((∀ i, i < a.length → _) ∧ _))
theorem sq_big {x : Int} (hx : x * x ≤ 1) : -1 ≤ x ∧ x ≤ 1 := by
  have e := Int.natAbs_mul_self (a := x)
  have h : x.natAbs ≤ 1 := Nat.le_of_not_lt fun h => by
    have := Nat.mul_le_mul (show 2 ≤ x.natAbs by omega) (show 2 ≤ x.natAbs by omega)
    omega
  omega
theorem bes_iff (p q : Cel) : Bes p q ↔ (q = p ∨ p ∈ Near q.1 q.2) := by
  obtain ⟨x, y⟩ := p
  obtain ⟨x', y'⟩ := q
  simp only [Bes, Near, List.mem_cons, Prod.mk.injEq, List.not_mem_nil, or_false]
  constructor
  · intro h
    have h1 := Int.natAbs_mul_self (a := x - x')
    have h2 := Int.natAbs_mul_self (a := y - y')
    have a1 := sq_big (x := x - x') (by omega)
    have a2 := sq_big (x := y - y') (by omega)
    have key : ∀ u v : Int, -1 ≤ u ∧ u ≤ 1 → -1 ≤ v ∧ v ≤ 1 → u * u + v * v ≤ 1 → u = 0 ∨ v = 0 := by
      intro u v hu hv h
      rcases (by omega : u = -1 ∨ u = 0 ∨ u = 1) with rfl | rfl | rfl <;> rcases (by omega : v = -1 ∨ v = 0 ∨ v = 1) with rfl | rfl | rfl <;> simp at h ⊢
    have := key _ _ a1 a2 h
    omega
  · intro h
    have : ∀ u v : Int, (u = 0 ∧ -1 ≤ v ∧ v ≤ 1) ∨ (v = 0 ∧ -1 ≤ u ∧ u ≤ 1) → u * u + v * v ≤ 1 := by
      intro u v hu
      rcases hu with ⟨rfl, h1, h2⟩ | ⟨rfl, h1, h2⟩
      · rcases (by omega : v = -1 ∨ v = 0 ∨ v = 1) with rfl | rfl | rfl <;> decide
      · rcases (by omega : u = -1 ∨ u = 0 ∨ u = 1) with rfl | rfl | rfl <;> decide
    exact this _ _ (by omega)
end Go.DM
