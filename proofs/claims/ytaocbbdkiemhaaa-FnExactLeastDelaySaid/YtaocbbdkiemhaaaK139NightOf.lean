/- Steps from a cell: one way of counting them, on plain data; the reference's side. -/
import Derived.Test.YtaocbbdkiemhaaaK139Those
import Derived.Test.YtaocbbdkiemhaaaK139Beside
set_option linter.unusedSimpArgs false
set_option linter.unusedVariables false
set_option maxHeartbeats 4000000
namespace Go.DM
set_option linter.unusedSectionVars false
variable [Tok]
open Go.IntWalk
variable {w h : Int} {g : Nat → Int} {cs : List S}

def visit (ok : Cel → Prop) [DecidablePred ok] (c : Cel) (s : (Nat → Int) × List Cel) (e : Cel) : (Nat → Int) × List Cel :=
  if ok e ∧ s.1 (ix e) < 0 then (gset s.1 (ix e) (s.1 (ix c) + 1), s.2 ++ [e]) else s
def bfs (ok : Cel → Prop) [DecidablePred ok] : Nat → (Nat → Int) × List Cel → (Nat → Int)
  | 0, s => s.1
  | _ + 1, (d, []) => d
  | n + 1, (d, c :: r) => bfs ok n ((Near c.1 c.2).foldl (visit ok c) (d, r))
/-- The steps from a cell to each cell, -1 where there are none. -/
def far (ok : Cel → Prop) [DecidablePred ok] (c : Cel) : Nat → Int := bfs ok 100 (gset (fun _ => -1) (ix c) 0, [c])
theorem bfs_end (ok : Cel → Prop) [DecidablePred ok] (d : Nat → Int) : ∀ n, bfs ok n (d, []) = d
  | 0 => rfl
  | n + 1 => rfl
def unk (d : Nat → Int) : Nat := ((List.range 100).filter fun k => decide (d k < 0)).length
theorem unk_cons (p p' : Nat → Bool) {k : Nat} : ∀ l : List Nat, l.Nodup → k ∈ l → p k = true → p' k = false → (∀ i, i ≠ k → p' i = p i) → (l.filter p').length + 1 = (l.filter p).length
  | [], _, h, _, _, _ => by cases h
  | x :: r, hn, hm, h1, h2, h3 => by
    rw [List.nodup_cons] at hn
    by_cases e : x = k
    · subst e
      have : r.filter p' = r.filter p := List.filter_congr fun i hi => h3 i fun e => by subst e; exact hn.1 hi
      simp [List.filter_cons, h1, h2, this]
    · have hm' : k ∈ r := by
        rcases List.mem_cons.1 hm with h | h
        · exact absurd h.symm e
        · exact h
      have ih := unk_cons p p' r hn.2 hm' h1 h2 h3
      rw [List.filter_cons, List.filter_cons, h3 x e]
      split <;> simp_all
theorem unk_set {d : Nat → Int} {k : Nat} {v : Int} (hk : k < 100) (h : d k < 0) (hv : 0 ≤ v) : unk (gset d k v) + 1 = unk d := by
  unfold unk
  refine unk_cons _ _ _ List.nodup_range (List.mem_range.2 hk) (by simpa using h) (by simp [gset]; omega) fun i hi => by simp [gset, hi]
structure BInv (w h : Int) (d : Nat → Int) (qu : List Cel) : Prop where
  lo : ∀ k, -1 ≤ d k
  hi : ∀ k, d k + unk d ≤ 100
  q : ∀ c ∈ qu, Has w h c.1 c.2 ∧ 0 ≤ d (ix c)
  len : qu.length + unk d ≤ 100
theorem BInv.push {d : Nat → Int} {qu : List Cel} (hs : w ≤ 10 ∧ h ≤ 10) (b : BInv w h d qu) {c e : Cel} (hc : c ∈ qu) (he : Has w h e.1 e.2) (hd : d (ix e) < 0) : BInv w h (gset d (ix e) (d (ix c) + 1)) (qu ++ [e]) ∧ unk (gset d (ix e) (d (ix c) + 1)) + 1 = unk d := by
  have h1 := b.q c hc
  have hk : ix e < 100 := by have := he; simp only [Has] at this; simp only [ix]; omega
  have hu := unk_set (v := d (ix c) + 1) hk hd (by omega)
  refine ⟨⟨fun k => ?_, fun k => ?_, fun a ha => ?_, ?_⟩, hu⟩
  · simp only [gset]; split
    · omega
    · exact b.lo k
  · have h2 := b.hi k
    have h3 := b.hi (ix c)
    simp only [gset] at hu ⊢; split <;> omega
  · rw [List.mem_append, List.mem_singleton] at ha
    rcases ha with ha | rfl
    · refine ⟨(b.q a ha).1, ?_⟩
      simp only [gset]; split
      · omega
      · exact (b.q a ha).2
    · exact ⟨he, by simp only [gset, if_true]; omega⟩
  · have := b.len
    rw [List.length_append, List.length_singleton]; omega
theorem BInv.first {c : Cel} (hs : w ≤ 10 ∧ h ≤ 10) (hc : Has w h c.1 c.2) : BInv w h (gset (fun _ => -1) (ix c) 0) [c] ∧ unk (gset (fun _ => -1) (ix c) 0) = 99 := by
  have hk : ix c < 100 := by have := hc; simp only [Has] at this; simp only [ix]; omega
  have hu := unk_set (d := fun _ => -1) (k := ix c) (v := 0) hk (by omega) (by omega)
  have h0 : unk (fun _ => -1) = 100 := by decide
  refine ⟨⟨fun k => ?_, fun k => ?_, fun a ha => ?_, ?_⟩, by omega⟩
  · simp only [gset]; split <;> omega
  · simp only [gset] at hu ⊢; split <;> omega
  · rw [List.mem_singleton] at ha; subst ha; exact ⟨hc, by simp [gset]⟩
  · simp; omega
theorem fold_skip {α β : Type} {f : β → α → β} {p : α → Bool} (hf : ∀ s e, p e = false → f s e = s) : ∀ (l : List α) (s : β), (l.filter p).foldl f s = l.foldl f s
  | [], s => rfl
  | x :: r, s => by
    rw [List.filter_cons, List.foldl_cons]
    split
    · rw [List.foldl_cons]; exact fold_skip hf r _
    · rename_i h
      rw [hf s x (by simpa using h)]; exact fold_skip hf r s
theorem fold_snoc {α β : Type} {f : β → α → β} {l : List α} {i : Nat} {a : α} (s : β) (h : l[i]? = some a) : (l.take (i + 1)).foldl f s = f ((l.take i).foldl f s) a := by
  rw [List.take_add_one, h, List.foldl_append]; rfl
/-- To which cells steps may go, for the reference: open ones, or grass alone. -/
def okS (w h : Int) (g : Nat → Int) (b : Bool) (c : Cel) : Prop := Has w h c.1 c.2 ∧ (g (ix c) = 0 ∨ (b = false ∧ g (ix c) = 3))
instance (w h : Int) (g : Nat → Int) (b : Bool) : DecidablePred (okS w h g b) := fun c => inferInstanceAs (Decidable (_ ∧ _))
theorem inside_fold (b : Bool) (c : Cel) (s : (Nat → Int) × List Cel) : (inside w h (Near c.1 c.2)).foldl (visit (okS w h g b) c) s = (Near c.1 c.2).foldl (visit (okS w h g b) c) s := by
  unfold inside
  refine fold_skip (fun s e he => ?_) _ _
  have : ¬ Has w h e.1 e.2 := by simpa using he
  simp only [visit]
  rw [if_neg fun hh => this hh.1.1]
theorem bfs_step {ok : Cel → Prop} [DecidablePred ok] {d : Nat → Int} {qu : List Cel} {i n : Nat} (hi : i < qu.length) : bfs ok (n + 1) (d, qu.drop i) = bfs ok n ((Near (gC qu i).1 (gC qu i).2).foldl (visit ok (gC qu i)) (d, qu.drop (i + 1))) := by
  have : qu.drop i = gC qu i :: qu.drop (i + 1) := by
    have h1 := gC_get hi
    obtain ⟨h2, h3⟩ := List.getElem?_eq_some_iff.1 h1
    rw [List.drop_eq_getElem_cons h2, h3]
  rw [this]; rfl
theorem inside_has {c e : Cel} (he : e ∈ inside w h (Near c.1 c.2)) : Has w h e.1 e.2 := by
  unfold inside at he; rw [List.mem_filter] at he; simpa using he.2

theorem gC_left {l r : List Cel} {i : Nat} (hi : i < l.length) : gC (l ++ r) i = gC l i := by
  simp [gC, List.getD_eq_getElem?_getD, List.getElem?_append_left hi]
theorem okS_no {b : Bool} {c : Cel} (hn : ¬ (g (ix c) = 0 ∨ g (ix c) = 3) ∨ (b = true ∧ ¬ g (ix c) = 0)) : ¬ okS w h g b c := by
  rintro ⟨_, h1⟩
  rcases hn with h2 | ⟨rfl, h2⟩
  · exact h2 (h1.imp id fun h => h.2)
  · rcases h1 with h1 | h1
    · exact h2 h1
    · cases h1.1
theorem visit_no {ok : Cel → Prop} [DecidablePred ok] {c e : Cel} {s : (Nat → Int) × List Cel} (hn : ¬ ok e ∨ 0 ≤ s.1 (ix e)) : visit ok c s e = s := by
  unfold visit
  rw [if_neg (by rintro ⟨h1, h2⟩; rcases hn with h | h; exact h h1; omega)]
theorem visit_yes {ok : Cel → Prop} [DecidablePred ok] {c e : Cel} {s : (Nat → Int) × List Cel} (h1 : ok e) (h2 : s.1 (ix e) < 0) : visit ok c s e = (gset s.1 (ix e) (s.1 (ix c) + 1), s.2 ++ [e]) := by
  unfold visit
  rw [if_pos ⟨h1, h2⟩]
theorem grid_congr {k : IntKind} {q q' : Nat → Int} (h : ∀ i, i < 100 → q i = q' i) : grid k q = grid k q' := by
  unfold grid
  apply List.map_congr_left
  intro i hi
  rw [h i (List.mem_range.1 hi)]
end Go.DM

/- Steps from a cell: the program's side. -/
set_option linter.unusedSimpArgs false
set_option linter.unusedVariables false
set_option maxHeartbeats 4000000
namespace Go.DM
set_option linter.unusedSectionVars false
variable [Tok]
open Go.IntWalk
variable {w h : Int} {g : Nat → Int} {cs : List S}

/-- Numbers of cells, behind each other. -/
def outI (w : Int) (d : Nat → Int) : Nat → Int := fun i => d (10 * (i / w.toNat) + i % w.toNat)
theorem mul_b (hs : 0 ≤ w ∧ w ≤ 10 ∧ 0 ≤ h ∧ h ≤ 10) : 0 ≤ w * h ∧ w * h ≤ 100 := by
  obtain ⟨W, rfl⟩ : ∃ W : Nat, w = W := ⟨w.toNat, by omega⟩
  obtain ⟨H, rfl⟩ : ∃ H : Nat, h = H := ⟨h.toNat, by omega⟩
  have h3 : W * H ≤ 10 * 10 := Nat.mul_le_mul (by omega) (by omega)
  have e : ((W * H : Nat) : Int) = (W : Int) * H := by simp
  omega
theorem idx_b (hs : 0 ≤ w ∧ w ≤ 10 ∧ 0 ≤ h ∧ h ≤ 10) {x y : Int} (hh : Has w h x y) : 0 ≤ y * w + x ∧ y * w + x < w * h := by
  simp only [Has] at hh
  obtain ⟨W, rfl⟩ : ∃ W : Nat, w = W := ⟨w.toNat, by omega⟩
  obtain ⟨H, rfl⟩ : ∃ H : Nat, h = H := ⟨h.toNat, by omega⟩
  obtain ⟨X, rfl⟩ : ∃ X : Nat, x = X := ⟨x.toNat, by omega⟩
  obtain ⟨Y, rfl⟩ : ∃ Y : Nat, y = Y := ⟨y.toNat, by omega⟩
  have h3 : (Y + 1) * W ≤ H * W := Nat.mul_le_mul_right W (by omega)
  have e1 : ((Y * W : Nat) : Int) = (Y : Int) * W := by simp
  have e2 : ((H * W : Nat) : Int) = (W : Int) * H := by simp [Int.mul_comm]
  rw [Nat.succ_mul] at h3
  omega
theorem div_idx {W x y : Nat} (hx : x < W) : (y * W + x) / W = y ∧ (y * W + x) % W = x := by
  refine ⟨?_, ?_⟩
  · rw [Nat.add_comm, Nat.add_mul_div_right _ _ (by omega), Nat.div_eq_of_lt hx, Nat.zero_add]
  · rw [Nat.add_comm, Nat.add_mul_mod_self_right, Nat.mod_eq_of_lt hx]
theorem idx_nat {x y : Int} (hh : Has w h x y) : (y * w + x).toNat = y.toNat * w.toNat + x.toNat := by
  simp only [Has] at hh
  obtain ⟨W, rfl⟩ : ∃ W : Nat, w = W := ⟨w.toNat, by omega⟩
  obtain ⟨X, rfl⟩ : ∃ X : Nat, x = X := ⟨x.toNat, by omega⟩
  obtain ⟨Y, rfl⟩ : ∃ Y : Nat, y = Y := ⟨y.toNat, by omega⟩
  have e1 : ((Y * W : Nat) : Int) = (Y : Int) * W := by simp
  simp only [Int.toNat_natCast]
  omega
theorem outI_get {d : Nat → Int} {x y : Int} (hh : Has w h x y) : outI w d (y * w + x).toNat = d (10 * y.toNat + x.toNat) := by
  rw [idx_nat hh]
  have := div_idx (W := w.toNat) (x := x.toNat) (y := y.toNat) (by simp only [Has] at hh; omega)
  simp only [outI, this.1, this.2]
theorem outI_set {d : Nat → Int} {c : Cel} {v : Int} (hs : w ≤ 10) (hh : Has w h c.1 c.2) : gset (outI w d) (c.2 * w + c.1).toNat v = outI w (gset d (ix c) v) := by
  funext i
  rw [idx_nat hh]
  have hx : c.1.toNat < w.toNat := by simp only [Has] at hh; omega
  have hd := div_idx (y := c.2.toNat) hx
  have hm := Nat.mod_lt i (show 0 < w.toNat by omega)
  have hdm := Nat.div_add_mod i w.toNat
  simp only [gset, outI, ix]
  by_cases e : i = c.2.toNat * w.toNat + c.1.toNat
  · rw [if_pos e, if_pos (by rw [e, hd.1, hd.2])]
  · rw [if_neg e, if_neg]
    intro e2
    have h1 : i / w.toNat = c.2.toNat := by omega
    have h2 : i % w.toNat = c.1.toNat := by omega
    exact e (by rw [← hdm, h1, h2, Nat.mul_comm])
theorem mul_1 (hs : 1 ≤ w ∧ 1 ≤ h) : 1 ≤ w * h := by
  obtain ⟨W, rfl⟩ : ∃ W : Nat, w = W := ⟨w.toNat, by omega⟩
  obtain ⟨H, rfl⟩ : ∃ H : Nat, h = H := ⟨h.toNat, by omega⟩
  have h3 : 1 * 1 ≤ W * H := Nat.mul_le_mul (by omega) (by omega)
  have e : ((W * H : Nat) : Int) = (W : Int) * H := by simp
  omega
/-- To which cells steps may go. -/
def okP (w h : Int) (P : Cel → Prop) (c : Cel) : Prop := Has w h c.1 c.2 ∧ P c
instance (w h : Int) (P : Cel → Prop) [DecidablePred P] : DecidablePred (okP w h P) := fun c => inferInstanceAs (Decidable (_ ∧ _))

theorem drop_gC {l : List Cel} {k : Nat} (hk : k < l.length) : l.drop k = gC l k :: l.drop (k + 1) := by
  have h1 := gC_get hk
  obtain ⟨h2, h3⟩ := List.getElem?_eq_some_iff.1 h1
  rw [List.drop_eq_getElem_cons h2, h3]
end Go.DM

/- The reference's code of cells that have to be open. -/
set_option linter.unusedSimpArgs false
set_option linter.unusedVariables false
set_option maxHeartbeats 4000000
namespace Go.DM
set_option linter.unusedSectionVars false
variable [Tok]
open Go.IntWalk
variable {w h : Int} {g : Nat → Int} {cs : List S}
theorem all_snoc {p : Cel → Prop} {L : List Cel} {i : Nat} (hi : i < L.length) : (∀ c ∈ L.take (i + 1), p c) ↔ (∀ c ∈ L.take i, p c) ∧ p (gC L i) := by
  rw [List.take_add_one, gC_get hi]
  simp only [Option.toList_some, List.mem_append, List.mem_singleton]
  constructor
  · intro h; exact ⟨fun c hc => h c (.inl hc), h _ (.inr rfl)⟩
  · rintro ⟨h1, h2⟩ c (hc | rfl)
    · exact h1 c hc
    · exact h2
theorem bstep_t {b : Bool} {A A' p : Prop} (h1 : b = true ↔ A) (h2 : A' ↔ A ∧ p) (hb : b = true) (hp : p) : true = true ↔ A' := ⟨fun _ => h2.2 ⟨h1.1 hb, hp⟩, fun _ => rfl⟩
theorem bstep_f {b : Bool} {A A' p : Prop} (h1 : b = true ↔ A) (h2 : A' ↔ A ∧ p) (hn : b = false ∨ ¬ p) : false = true ↔ A' := ⟨fun h => (nomatch h), fun h => by
  have h3 := h2.1 h
  rcases hn with hn | hn
  · have := h1.2 h3.1; rw [hn] at this; exact this
  · exact absurd h3.2 hn⟩
abbrev InB (c : Cel) : Prop := -128 ≤ c.1 ∧ c.1 ≤ 127 ∧ -128 ≤ c.2 ∧ c.2 ≤ 127
end Go.DM

/- NightOf: the program's side. -/
set_option linter.unusedSimpArgs false
set_option linter.unusedVariables false
namespace Go.DM
set_option linter.unusedSectionVars false
variable [Tok]
open Go.IntWalk
variable {w h : Int} {g : Nat → Int} {cs : List S} {q : Nat → Int} {qs : List S}

section
variable {Γ : Nat → Option Fn} {dsts : Nat → Option Nat} {ops : List Oper} {Q : St → Prop} {σ : St} {d : Option Nat} {gd : Option (Nat × Bool)} {l1 l2 l3 l4 : List Nat}
theorem WH.s2 {es p off n l h : Nat} {a : Opd} {lo hi : Option Opd} (hw : wanted dsts (kill l1 (only l3 σ)).env gd = some true) (ha : ev (kill l1 (only l3 σ)).env a = .a (.sl p off n es)) (hl : bound (lo.map (ev (kill l1 (only l3 σ)).env)) 0 = some l) (hh : bound (hi.map (ev (kill l1 (only l3 σ)).env)) n = some h) (hb : l ≤ h ∧ h ≤ n)
    (hv : killV l1 (.a (.sl p (off + l * es) (h - l) es)) = .a (.sl p (off + l * es) (h - l) es)) (K : WH Γ dsts ops Q (set d (.a (.sl p (off + l * es) (h - l) es)) σ)) : WH Γ dsts (⟨d, .slc (.sl es) a lo hi, gd, l1, l2, l3, l4⟩ :: ops) Q σ :=
  WH.q hw (by simp only [veil, quiet, ha, slc, hl, hh, Option.bind_some]; rw [if_pos ⟨hb.1, hb.2, trivial⟩]) hv K
end
/-- A slice behind its first cell, and a cell, handed to a call. -/
theorem args_tail {σ : St} {p n : Nat} {l : List Cel} {x : D} (hn : n + 1 = l.length) (h : σ.objs p = some (.flat false (encC l))) : args σ [] [] [.a (.sl p (0 + 1 * 2) n 2), .a (.d x)] = some [asl (l.drop 1), .d x] := by
  have hl := encC_length l
  have e : ((encC l).drop (0 + 1 * 2)).take (n * 2) = encC (l.drop 1) := by
    rw [show 0 + 1 * 2 = 1 * 2 from rfl, encC_dr, List.take_of_length_le]
    rw [encC_length, List.length_drop]; omega
  have h1 : toDV (fun o => if ([] : List Nat).contains o then none else σ.objs o) depth (.a (.sl p (0 + 1 * 2) n 2)) = some (.sl (l.drop 1).length 2 (encC (l.drop 1))) := by
    show toDA _ _ _ = _
    simp only [toDA, List.contains_nil, Bool.false_eq_true, if_false, h]
    rw [if_pos (by omega), e, show n = (l.drop 1).length by rw [List.length_drop]; omega]
  simp only [args]
  rw [h1]
  rfl

theorem belowCode_congr {a b c a' b' c' : Prop} {d1 : Decidable a} {d2 : Decidable b} {d3 : Decidable c} {e1 : Decidable a'} {e2 : Decidable b'} {e3 : Decidable c'} (h1 : a ↔ a') (h2 : b ↔ b') (h3 : c ↔ c') : belowCode a b c = belowCode a' b' c' := by
  unfold belowCode
  by_cases k1 : a <;> by_cases k2 : b <;> by_cases k3 : c <;> simp [k1, k2, k3, ← h1, ← h2, ← h3]
def nightRes (code i : Int) : Res := if code = 0 then (if i < 0 then ⟨[.s (.int .i64 0), .s (.int .i64 6)], []⟩ else ⟨[.s (.int .i64 (i + 1)), .s (.int .i64 0)], []⟩) else ⟨[.s (.int .i64 0), .s (.int .i64 code)], []⟩
def nightCode (w h : Int) (g q : Nat → Int) (a b : Cel) : Int := belowCode (LevOk w h g q) (Has w h a.1 a.2 ∧ Has w h b.1 b.2) (Is w h g 0 a.1 a.2 ∧ Is w h g 0 b.1 b.2)
def nightIdx (w h : Int) (g q : Nat → Int) (qs : List S) (a b : Cel) : Int := idxOf (fun c => b.1 = c.1 ∧ b.2 = c.2) (((Mole.mk q qs a a).path w h g 60).drop 1) 0

end Go.DM
