/- Steps from a cell: one way of counting them, on plain data; the reference's side. -/
import Derived.Test.YtadlffkjghjciaaGreatDoorK380RowsText
set_option linter.unusedSectionVars false
set_option linter.unusedSimpArgs false
set_option linter.unusedVariables false
set_option maxHeartbeats 4000000
namespace Go.DM
variable [Tok]
open Go.IntWalk
variable {w h : Int} {g : Nat → Int} {cs : List S}
def visit (ok : Cel → Prop) [DecidablePred ok] (c : Cel) (s : (Nat → Int) × List Cel) (e : Cel) : (Nat → Int) × List Cel :=
  if ok e ∧ s.1 (ix e) < 0 then (gset s.1 (ix e) (s.1 (ix c) + 1), s.2 ++ [e]) else s
def bfs (ok : Cel → Prop) [DecidablePred ok] : Nat → (Nat → Int) × List Cel → (Nat → Int)
  | 0, s => s.1
  | _ + 1, (d, []) => d
  | n + 1, (d, c :: r) => bfs ok n ((Near c.1 c.2).foldl (visit ok c) (d, r))
def far (ok : Cel → Prop) [DecidablePred ok] (c : Cel) : Nat → Int := bfs ok 100 (gset (fun _ => -1) (ix c) 0, [c])
theorem bfs_end (ok : Cel → Prop) [DecidablePred ok] (d : Nat → Int) : ∀ n, bfs ok n (d, []) = d
  | 0 => rfl
  | n + 1 => rfl
def unk (d : Nat → Int) : Nat := ((List.range 100).filter fun k => decide (d k < 0)).length
theorem unk_cons (p p' : Nat → Bool) {k : Nat} : ∀ l : List Nat, l.Nodup → k ∈ l → p k = true → p' k = false → (∀ i, i ≠ k → p' i = p i) → (l.filter p').length + 1 = (l.filter p).length
  | [], _, h, _, _, _ => by cases h
  | x :: r, hn, hm, h1, h2, h3 => by
    rw [List.nodup_cons] at hn
    by_cases e : x = k
    · subst e
      have : r.filter p' = r.filter p := List.filter_congr fun i hi => h3 i fun e => by subst e; exact hn.1 hi
      simp [List.filter_cons, h1, h2, this]
    · have hm' : k ∈ r := by
        rcases List.mem_cons.1 hm with h | h
        · exact absurd h.symm e
        · exact h
      have ih := unk_cons p p' r hn.2 hm' h1 h2 h3
      rw [List.filter_cons, List.filter_cons, h3 x e]
      split <;> simp_all
theorem unk_set {d : Nat → Int} {k : Nat} {v : Int} (hk : k < 100) (h : d k < 0) (hv : 0 ≤ v) : unk (gset d k v) + 1 = unk d := by
  unfold unk
  refine unk_cons _ _ _ List.nodup_range (List.mem_range.2 hk) (by simpa using h) (by simp [gset]; omega) fun i hi => by simp [gset, hi]
structure BInv (w h : Int) (d : Nat → Int) (qu : List Cel) : Prop where
  lo : ∀ k, -1 ≤ d k
  hi : ∀ k, d k + unk d ≤ 100
  q : ∀ c ∈ qu, Has w h c.1 c.2 ∧ 0 ≤ d (ix c)
  len : qu.length + unk d ≤ 100
theorem BInv.push {d : Nat → Int} {qu : List Cel} (hs : w ≤ 10 ∧ h ≤ 10) (b : BInv w h d qu) {c e : Cel} (hc : c ∈ qu) (he : Has w h e.1 e.2) (hd : d (ix e) < 0) : BInv w h (gset d (ix e) (d (ix c) + 1)) (qu ++ [e]) ∧ unk (gset d (ix e) (d (ix c) + 1)) + 1 = unk d := by
  have h1 := b.q c hc
  have hk : ix e < 100 := by have := he; simp only [Has] at this; simp only [ix]; omega
  have hu := unk_set (v := d (ix c) + 1) hk hd (by omega)
  refine ⟨⟨fun k => ?_, fun k => ?_, fun a ha => ?_, ?_⟩, hu⟩
  · simp only [gset]; split
    · omega
    · exact b.lo k
  · have h2 := b.hi k
    have h3 := b.hi (ix c)
    simp only [gset] at hu ⊢; split <;> omega
  · rw [List.mem_append, List.mem_singleton] at ha
    rcases ha with ha | rfl
    · refine ⟨(b.q a ha).1, ?_⟩
      simp only [gset]; split
      · omega
      · exact (b.q a ha).2
    · exact ⟨he, by simp only [gset, if_true]; omega⟩
  · have := b.len
    rw [List.length_append, List.length_singleton]; omega
theorem BInv.first {c : Cel} (hs : w ≤ 10 ∧ h ≤ 10) (hc : Has w h c.1 c.2) : BInv w h (gset (fun _ => -1) (ix c) 0) [c] ∧ unk (gset (fun _ => -1) (ix c) 0) = 99 := by
  have hk : ix c < 100 := by have := hc; simp only [Has] at this; simp only [ix]; omega
  have hu := unk_set (d := fun _ => -1) (k := ix c) (v := 0) hk (by omega) (by omega)
  have h0 : unk (fun _ => -1) = 100 := by decide
  refine ⟨⟨fun k => ?_, fun k => ?_, fun a ha => ?_, ?_⟩, by omega⟩
  · simp only [gset]; split <;> omega
  · simp only [gset] at hu ⊢; split <;> omega
  · rw [List.mem_singleton] at ha; subst ha; exact ⟨hc, by simp [gset]⟩
  · simp; omega
theorem fold_skip {α β : Type} {f : β → α → β} {p : α → Bool} (hf : ∀ s e, p e = false → f s e = s) : ∀ (l : List α) (s : β), (l.filter p).foldl f s = l.foldl f s
  | [], s => rfl
  | x :: r, s => by
    rw [List.filter_cons, List.foldl_cons]
    split
    · rw [List.foldl_cons]; exact fold_skip hf r _
    · rename_i h
      rw [hf s x (by simpa using h)]; exact fold_skip hf r s
theorem fold_snoc {α β : Type} {f : β → α → β} {l : List α} {i : Nat} {a : α} (s : β) (h : l[i]? = some a) : (l.take (i + 1)).foldl f s = f ((l.take i).foldl f s) a := by
  rw [List.take_add_one, h, List.foldl_append]; rfl
def okS (w h : Int) (g : Nat → Int) (b : Bool) (c : Cel) : Prop := Has w h c.1 c.2 ∧ (g (ix c) = 0 ∨ (b = false ∧ g (ix c) = 3))
instance (w h : Int) (g : Nat → Int) (b : Bool) : DecidablePred (okS w h g b) := fun c => inferInstanceAs (Decidable (_ ∧ _))
theorem inside_fold (b : Bool) (c : Cel) (s : (Nat → Int) × List Cel) : (inside w h (Near c.1 c.2)).foldl (visit (okS w h g b) c) s = (Near c.1 c.2).foldl (visit (okS w h g b) c) s := by
  unfold inside
  refine fold_skip (fun s e he => ?_) _ _
  have : ¬ Has w h e.1 e.2 := by simpa using he
  simp only [visit]
  rw [if_neg fun hh => this hh.1.1]
theorem bfs_step {ok : Cel → Prop} [DecidablePred ok] {d : Nat → Int} {qu : List Cel} {i n : Nat} (hi : i < qu.length) : bfs ok (n + 1) (d, qu.drop i) = bfs ok n ((Near (gC qu i).1 (gC qu i).2).foldl (visit ok (gC qu i)) (d, qu.drop (i + 1))) := by
  have : qu.drop i = gC qu i :: qu.drop (i + 1) := by
    have h1 := gC_get hi
    obtain ⟨h2, h3⟩ := List.getElem?_eq_some_iff.1 h1
    rw [List.drop_eq_getElem_cons h2, h3]
  rw [this]; rfl
theorem inside_has {c e : Cel} (he : e ∈ inside w h (Near c.1 c.2)) : Has w h e.1 e.2 := by
  unfold inside at he; rw [List.mem_filter] at he; simpa using he.2
theorem gC_left {l r : List Cel} {i : Nat} (hi : i < l.length) : gC (l ++ r) i = gC l i := by
  simp [gC, List.getD_eq_getElem?_getD, List.getElem?_append_left hi]
theorem okS_no {b : Bool} {c : Cel} (hn : ¬ (g (ix c) = 0 ∨ g (ix c) = 3) ∨ (b = true ∧ ¬ g (ix c) = 0)) : ¬ okS w h g b c := by
  rintro ⟨_, h1⟩
  rcases hn with h2 | ⟨rfl, h2⟩
  · exact h2 (h1.imp id fun h => h.2)
  · rcases h1 with h1 | h1
    · exact h2 h1
    · cases h1.1
theorem visit_no {ok : Cel → Prop} [DecidablePred ok] {c e : Cel} {s : (Nat → Int) × List Cel} (hn : ¬ ok e ∨ 0 ≤ s.1 (ix e)) : visit ok c s e = s := by
  unfold visit
  rw [if_neg (by rintro ⟨h1, h2⟩; rcases hn with h | h; exact h h1; omega)]
theorem visit_yes {ok : Cel → Prop} [DecidablePred ok] {c e : Cel} {s : (Nat → Int) × List Cel} (h1 : ok e) (h2 : s.1 (ix e) < 0) : visit ok c s e = (gset s.1 (ix e) (s.1 (ix c) + 1), s.2 ++ [e]) := by
  unfold visit
  rw [if_pos ⟨h1, h2⟩]
theorem grid_congr {k : IntKind} {q q' : Nat → Int} (h : ∀ i, i < 100 → q i = q' i) : grid k q = grid k q' := by
  unfold grid
  apply List.map_congr_left
  intro i hi
  rw [h i (List.mem_range.1 hi)]
theorem l01Reach_gives (l : IsLawn w h g cs) (hs : w ≤ 10 ∧ h ≤ 10) (b : Bool) (x y : Int) (hf : Has w h x y) : Gives G 43 [ar cs, ac x y, ab b] ⟨[.agg (grid .i64 (far (okS w h g b) (x, y)))], []⟩ := by
  refine Gives.by rfl rfl (W.seq ?_)
  have hb0 : 0 ≤ x ∧ x < 10 ∧ 0 ≤ y ∧ y < 10 := by simp only [Has] at hf; omega
  repeat' first | ((with_reducible apply WR.mv); exact rfl; exact rfl) | ((with_reducible apply WR.st); exact rfl; exact rfl; exact rfl; exact storeAll (by first | exact List.length_replicate .. | exact rfl) (by first | exact List.length_replicate .. | exact rfl)) | ((with_reducible apply WR.nil)) | (with_reducible refine andThen_n ?_) | (with_reducible refine W.seq ?_) | (with_reducible refine W.region ?_) | (with_reducible refine W.block ?_) | ((with_reducible apply WR.al); exact rfl; (exact rfl)) | ((with_reducible apply WR.bx); exact rfl; exact rfl; exact (by first | exact List.length_replicate .. | exact rfl); (exact rfl)) | ((with_reducible apply WR.bu); exact rfl; exact rfl)
  rw [grid_rep]
  (refine (?_ : W _ (Code.loop _) _ _))
  (refine W.loopM [0, 2, 4, 6, 7] [4, 6] [34, 46, 119, 120] (fun zz : (Nat) × (Nat → Int) => match zz with | (r, q) => (10 - r : Nat)) (fun zz : (Nat) × (Nat → Int) => match zz with | (r, q) => (r ≤ 10 ∧ ∀ k, k < 10 * r → q k = -1 : Prop)) (fun zz : (Nat) × (Nat → Int) => match zz with | (r, q) => [(8, .a (.d (.s (.int .i64 (r : Nat)))))]) (fun zz : (Nat) × (Nat → Int) => match zz with | (r, q) => [(7, .flat false (grid .i64 q))]) (0, fun _ => 0) (⟨by omega, fun k hk => by omega⟩) ⟨rfl, trivial⟩ ⟨rfl, trivial⟩ ⟨np, np, np, np, trivial⟩ ?_)
  rintro ⟨r, q⟩ σ hP hN; dsimp only [setL, putL] at hP ⊢; obtain ⟨n34, hN⟩ := hN; obtain ⟨n46, hN⟩ := hN; obtain ⟨n119, hN⟩ := hN; obtain ⟨n120, hN⟩ := hN
  obtain ⟨hr, hq⟩ := hP
  repeat' first | ((with_reducible apply WR.mv); exact rfl; exact rfl) | ((with_reducible apply WH.lx); exact rfl; exact rfl; exact rfl) | ((with_reducible apply WH.ia); exact rfl; exact rfl; exact rfl; omega; exact rfl) | ((with_reducible apply WH.fa); exact rfl; exact rfl; exact rfl) | ((with_reducible apply WR.lss); exact rfl; exact rfl; exact rfl) | ((with_reducible apply WR.ld); exact rfl; exact rfl; exact rfl; (first | exact ld2)) | ((with_reducible apply WR.nil)) | (with_reducible refine andThen_n ?_) | (with_reducible refine andThen_x ?_) | (with_reducible refine inB_x ?_) | (with_reducible refine W.seq ?_) | (with_reducible refine W.region ?_) | (with_reducible refine W.skip ?_) | (with_reducible refine W.exit ?_) | (with_reducible refine W.block ?_) | ((with_reducible apply W.condT); exact rfl) | ((with_reducible apply W.condF); exact rfl) | ((with_reducible apply WH.nil)) | (with_reducible refine W.draw ?_) | (intro hb; try (exfalso; omega)) | ((with_reducible apply WR.bs1); exact rfl; exact rfl; (first | assumption)) | ((with_reducible apply WH.st); exact rfl; exact rfl; exact rfl; exact stG (by omega); exact rfl; exact rfl)
  · (refine (?_ : W _ (Code.loop _) _ _))
    (refine W.loopM [0, 2, 4, 6, 7, 8] [4, 6] [34, 46, 119, 120] (fun zz : (Nat) × (Nat → Int) => match zz with | (c, p) => (10 - c : Nat)) (fun zz : (Nat) × (Nat → Int) => match zz with | (c, p) => (c ≤ 10 ∧ ∀ k, k < 10 * r + c → p k = -1 : Prop)) (fun zz : (Nat) × (Nat → Int) => match zz with | (c, p) => [(9, .a (.d (.s (.int .i64 (c : Nat)))))]) (fun zz : (Nat) × (Nat → Int) => match zz with | (c, p) => [(7, .flat false (grid .i64 p))]) (0, q) (⟨by omega, fun k hk => hq k (by omega)⟩) ⟨rfl, trivial⟩ ⟨rfl, trivial⟩ ⟨np, np, np, np, trivial⟩ ?_)
    rintro ⟨c, p⟩ σ hP hN; dsimp only [setL, putL] at hP ⊢; obtain ⟨n34, hN⟩ := hN; obtain ⟨n46, hN⟩ := hN; obtain ⟨n119, hN⟩ := hN; obtain ⟨n120, hN⟩ := hN
    obtain ⟨hc, hp⟩ := hP
    repeat' first | ((with_reducible apply WR.mv); exact rfl; exact rfl) | ((with_reducible apply WR.lss); exact rfl; exact rfl; exact rfl) | ((with_reducible apply WR.ad); exact rfl; exact rfl; exact rfl; (first | exact i64_in _ (by omega))) | ((with_reducible apply WR.st); exact rfl; exact rfl; exact rfl; exact stG (by omega)) | ((with_reducible apply WR.nil)) | (with_reducible refine andThen_n ?_) | (with_reducible refine andThen_x ?_) | (with_reducible refine inB_n ?_) | (with_reducible refine inB_x ?_) | (with_reducible refine W.seq ?_) | (with_reducible refine W.region ?_) | (with_reducible refine W.skip ?_) | (with_reducible refine W.exit ?_) | (with_reducible refine W.block ?_) | ((with_reducible apply W.condT); exact rfl) | ((with_reducible apply W.condF); exact rfl) | (intro hb; try (exfalso; omega)) | ((with_reducible apply WR.ia); exact rfl; exact rfl; exact rfl; omega)
    · (refine W.nxt (c + 1, gset p (10 * r + c) (-1)) (by first | omega | (dsimp only; omega)) ?_ ⟨rfl, trivial⟩ ⟨rfl, trivial⟩ ⟨rfl, rfl, rfl, rfl, rfl, rfl, trivial⟩ ⟨rfl, rfl, trivial⟩ ⟨np, np, np, np, trivial⟩); (try dsimp only)
      refine ⟨by omega, fun k hk => ?_⟩
      simp only [gset]; split
      · rfl
      · exact hp k (by omega)
    · (refine W.nxt (r + 1, p) (by first | omega | (dsimp only; omega)) ?_ ⟨rfl, trivial⟩ ⟨rfl, trivial⟩ ⟨rfl, rfl, rfl, rfl, rfl, trivial⟩ ⟨rfl, rfl, trivial⟩ ⟨np, np, np, np, trivial⟩); (try dsimp only)
      exact ⟨by omega, fun k hk => hp k (by omega)⟩
  · have e : grid .i64 (gset q (10 * y.toNat + x.toNat) 0) = grid .i64 (gset (fun _ => -1) (ix (x, y)) 0) := grid_congr fun k hk => by
      simp only [gset]; split
      · rfl
      · exact hq k (by omega)
    rw [e]
    obtain ⟨hB, hu⟩ := BInv.first (c := (x, y)) hs hf
    have hres : far (okS w h g b) (x, y) = bfs (okS w h g b) 100 (gset (fun _ => -1) (ix (x, y)) 0, [(x, y)].drop 0) := rfl
    generalize far (okS w h g b) (x, y) = R at hres ⊢
    generalize gset (fun _ => -1) (ix (x, y)) 0 = d0 at hB hu hres ⊢
    clear hq e
    (refine (?_ : W _ (Code.loop _) _ _))
    (refine W.loopM [0, 2, 6, 7] [6] [46, 119, 120] (fun zz : (Nat) × (List Cel) × (Nat → Int) × (Nat) => match zz with | (i, qu, d, n) => (n : Nat)) (fun zz : (Nat) × (List Cel) × (Nat → Int) × (Nat) => match zz with | (i, qu, d, n) => (i ≤ qu.length ∧ R = bfs (okS w h g b) n (d, qu.drop i) ∧ unk d + (qu.length - i) ≤ n ∧ BInv w h d qu : Prop)) (fun zz : (Nat) × (List Cel) × (Nat → Int) × (Nat) => match zz with | (i, qu, d, n) => [(10, .a (.sl 34 0 qu.length 2)), (11, .a (.d (.s (.int .i64 (i : Nat)))))]) (fun zz : (Nat) × (List Cel) × (Nat → Int) × (Nat) => match zz with | (i, qu, d, n) => [(34, .flat false (encC qu)), (7, .flat false (grid .i64 d))]) (0, [(x, y)], d0, 100) (⟨by omega, hres, by simp; omega, hB⟩) ⟨rfl, rfl, trivial⟩ ⟨rfl, rfl, trivial⟩ ⟨np, np, np, trivial⟩ ?_)
    rintro ⟨i, qu, d, n⟩ σ hP hN; dsimp only [setL, putL] at hP ⊢; obtain ⟨n46, hN⟩ := hN; obtain ⟨n119, hN⟩ := hN; obtain ⟨n120, hN⟩ := hN
    obtain ⟨hi, hR, hn, hI⟩ := hP
    repeat' first | ((with_reducible apply WR.mv); exact rfl; exact rfl) | ((with_reducible apply WR.lss); exact rfl; exact rfl; exact rfl) | ((with_reducible apply WR.ld); exact rfl; exact rfl; exact rfl; (first | exact ldC (by first | omega) | exact loadC_all grid_len)) | ((with_reducible apply WR.st); exact rfl; exact rfl; exact rfl; exact storeAll (by first | exact grid_len | exact rfl) (by first | exact grid_len | exact rfl)) | ((with_reducible apply WR.nil)) | (with_reducible refine andThen_n ?_) | (with_reducible refine andThen_x ?_) | (with_reducible refine inB_x ?_) | (with_reducible refine W.seq ?_) | (with_reducible refine W.region ?_) | (with_reducible refine W.skip ?_) | (with_reducible refine W.ret ?_) | (with_reducible refine W.exit ?_) | (with_reducible refine W.block ?_) | ((with_reducible apply W.condT); exact rfl) | ((with_reducible apply W.condF); exact rfl) | ((with_reducible apply Done.f); (intro hh hh2; exact (nomatch hh2)); (focus ((repeat' first | exact all_nil | apply all_cons | exact res_cell rfl rfl (by first | exact grid_len | exact rfl) | exact rfl); done)); (focus ((repeat' first | exact all_nil | apply all_cons | exact retOf_a rfl | exact rfl); done)); exact rfl; (focus ((repeat' first | exact outs_nil | apply outs_d | exact rfl); done))) | (intro hb; try (exfalso; omega)) | ((with_reducible apply WR.isn); exact rfl; exact rfl; exact rfl; omega) | ((with_reducible apply WR.le); exact rfl; exact rfl)
    · have hi2 : i < qu.length := by omega
      have hc := hI.q _ (gC_mem hi2)
      have hcH := hc.1
      obtain ⟨m, rfl⟩ : ∃ m, n = m + 1 := ⟨n - 1, by omega⟩
      rw [bfs_step hi2, ← inside_fold] at hR
      repeat' first | ((with_reducible apply WR.c_o (f := 85) (fn := Code.f85)); exact rfl; exact rfl; exact rfl; (exact rfl); (focus ((repeat' first | exact args_nil | apply args_d | exact toD_d rfl | exact rfl); done)); exact l01Beside_gives (by assumption) _ _ (by omega); (first | exact rfl | assumption)) | ((with_reducible apply WR.mv); exact rfl; exact rfl) | ((with_reducible apply WR.nil)) | (with_reducible refine andThen_n ?_) | (with_reducible refine W.seq ?_) | (with_reducible refine W.region ?_) | (with_reducible refine W.block ?_)
      have hL4 := inside_len (w := w) (h := h) (l := Near (gC qu i).1 (gC qu i).2)
      rw [show (Near (gC qu i).1 (gC qu i).2).length = 4 from rfl] at hL4
      have hLh : ∀ e ∈ inside w h (Near (gC qu i).1 (gC qu i).2), Has w h e.1 e.2 := fun e he => inside_has he
      generalize inside w h (Near (gC qu i).1 (gC qu i).2) = L at hR hL4 hLh ⊢
      (refine (?_ : W _ (Code.loop _) _ _))
      (refine W.loopM [0, 2, 6, 7, 11, 12] [6] [46, 119, 120] (fun zz : (Nat) × (List Cel) × (Nat → Int) => match zz with | (j, qv, f) => (L.length - j : Nat)) (fun zz : (Nat) × (List Cel) × (Nat → Int) => match zz with | (j, qv, f) => (j ≤ L.length ∧ i < qv.length ∧ gC qv i = gC qu i ∧ (f, qv.drop (i + 1)) = (L.take j).foldl (visit (okS w h g b) (gC qu i)) (d, qu.drop (i + 1)) ∧ BInv w h f qv ∧ unk f + qv.length = unk d + qu.length : Prop)) (fun zz : (Nat) × (List Cel) × (Nat → Int) => match zz with | (j, qv, f) => [(10, .a (.sl 34 0 qv.length 2)), (13, .a (.d (.s (.int .i64 (j : Nat)))))]) (fun zz : (Nat) × (List Cel) × (Nat → Int) => match zz with | (j, qv, f) => [(34, .flat false (encC qv)), (7, .flat false (grid .i64 f)), (46, .flat false (encC L))]) (0, qu, d) (⟨by omega, hi2, rfl, rfl, hI, rfl⟩) ⟨rfl, rfl, trivial⟩ ⟨rfl, rfl, rfl, trivial⟩ ⟨np, np, np, trivial⟩ ?_)
      rintro ⟨j, qv, f⟩ σ hP hN; dsimp only [setL, putL] at hP ⊢; obtain ⟨n46, hN⟩ := hN; obtain ⟨n119, hN⟩ := hN; obtain ⟨n120, hN⟩ := hN
      obtain ⟨hj, hiv, hgc, hfold, hJ, hcnt⟩ := hP
      have hq1 := (hJ.q _ (gC_mem hiv)).1
      have hlo : -1 ≤ f (10 * (gC qv i).2.toNat + (gC qv i).1.toNat) := hJ.lo _
      have hhi : f (10 * (gC qv i).2.toNat + (gC qv i).1.toNat) + unk f ≤ 100 := hJ.hi _
      have hlen := hJ.len
      by_cases hjl : j < L.length
      · have hH := hLh _ (gC_mem hjl)
        have hst := fold_snoc (f := visit (okS w h g b) (gC qu i)) (d, qu.drop (i + 1)) (gC_get hjl)
        rw [← hfold] at hst
        cases b
        all_goals
          repeat' first | ((with_reducible apply WH.c_s (f := 61) (fn := Code.f61)); exact rfl; exact rfl; exact rfl; (exact rfl); (focus ((repeat' first | exact args_nil | apply args_d | exact toD_d rfl | exact rfl); done)); exact l01At_gives (by assumption) _ _ (by omega); exact rfl) | ((with_reducible apply WH.c_p (f := 72) (fn := Code.f72)); exact rfl; exact rfl; exact rfl; (exact rfl); (focus ((repeat' first | exact args_nil | apply args_d | exact toD_d rfl | exact rfl); done)); exact l01Open_gives (by assumption) _ _ (by omega)) | ((with_reducible apply WR.mv); exact rfl; exact rfl) | ((with_reducible apply WH.mv); exact rfl; exact rfl; exact rfl) | ((with_reducible apply WH.off); exact rfl) | ((with_reducible apply WH.ld); exact rfl; exact rfl; exact rfl; (first | exact ldC (by first | omega) | exact ldCx (by first | omega) | exact ldCy (by first | omega) | exact ldG (by omega)); exact rfl) | ((with_reducible apply WH.isn); exact rfl; exact rfl; exact rfl; omega; exact rfl) | ((with_reducible apply WH.ia); exact rfl; exact rfl; exact rfl; omega; exact rfl) | ((with_reducible apply WH.fa); exact rfl; exact rfl; exact rfl) | ((with_reducible apply WR.lss); exact rfl; exact rfl; exact rfl) | ((with_reducible apply WR.ad); exact rfl; exact rfl; exact rfl; (first | exact i64_in _ (by omega) | assumption)) | ((with_reducible apply WR.ld); exact rfl; exact rfl; exact rfl; (first | exact ldC (by first | omega) | exact ldCx (by first | omega) | exact ldCy (by first | omega) | exact ldG (by omega))) | ((with_reducible apply WR.nil)) | (with_reducible refine andThen_n ?_) | (with_reducible refine andThen_x ?_) | (with_reducible refine inB_n ?_) | (with_reducible refine inB_x ?_) | (with_reducible refine W.seq ?_) | (with_reducible refine W.region ?_) | (with_reducible refine W.skip ?_) | (with_reducible refine W.exit ?_) | (with_reducible refine W.block ?_) | ((with_reducible apply W.condT); exact rfl) | ((with_reducible apply W.condF); exact rfl) | ((with_reducible apply WH.pk); exact rfl; exact rfl; exact rfl) | ((with_reducible apply WH.nil)) | (with_reducible refine W.draw ?_) | (intro hb; try (exfalso; omega)) | ((with_reducible apply WR.isn); exact rfl; exact rfl; exact rfl; omega) | ((with_reducible apply WR.bs1); exact rfl; exact rfl; (first | exact rfl | assumption)) | ((with_reducible apply WR.le); exact rfl; exact rfl) | ((with_reducible apply WH.st); exact rfl; exact rfl; exact rfl; exact stG (by omega); exact rfl; exact rfl) | ((with_reducible apply WR.apC); exact rfl; exact rfl; exact rfl; exact rfl; omega) | ((with_reducible apply WH.geq); exact rfl; exact rfl; exact rfl) | ((with_reducible apply WH.neq); exact rfl; exact rfl; exact rfl) | ((with_reducible apply WH.ad); exact rfl; exact rfl; exact rfl; (first | exact i64_in _ (by omega) | assumption)) | ((with_reducible apply WH.un); exact rfl; exact rfl; exact rfl)
        all_goals first
          | (replace hst := hst.trans (visit_no (.inr (by assumption : f (10 * (gC L j).2.toNat + (gC L j).1.toNat) ≥ 0)))
             (refine W.nxt (j + 1, qv, f) (by first | omega | (dsimp only; omega)) ?_ ⟨rfl, rfl, trivial⟩ ⟨rfl, rfl, rfl, trivial⟩ ⟨rfl, rfl, rfl, rfl, rfl, rfl, trivial⟩ ⟨rfl, trivial⟩ ⟨np, np, np, trivial⟩); (try dsimp only)
             exact ⟨by omega, hiv, hgc, hst.symm, hJ, hcnt⟩)
          | (replace hst := hst.trans (visit_no (.inl (okS_no (.inl (by assumption : ¬ (g (10 * (gC L j).2.toNat + (gC L j).1.toNat) = 0 ∨ g (10 * (gC L j).2.toNat + (gC L j).1.toNat) = 3))))))
             (refine W.nxt (j + 1, qv, f) (by first | omega | (dsimp only; omega)) ?_ ⟨rfl, rfl, trivial⟩ ⟨rfl, rfl, rfl, trivial⟩ ⟨rfl, rfl, rfl, rfl, rfl, rfl, trivial⟩ ⟨rfl, trivial⟩ ⟨np, np, np, trivial⟩); (try dsimp only)
             exact ⟨by omega, hiv, hgc, hst.symm, hJ, hcnt⟩)
          | (replace hst := hst.trans (visit_no (.inl (okS_no (.inr ⟨rfl, (by assumption : ¬ g (10 * (gC L j).2.toNat + (gC L j).1.toNat) = 0)⟩))))
             (refine W.nxt (j + 1, qv, f) (by first | omega | (dsimp only; omega)) ?_ ⟨rfl, rfl, trivial⟩ ⟨rfl, rfl, rfl, trivial⟩ ⟨rfl, rfl, rfl, rfl, rfl, rfl, trivial⟩ ⟨rfl, trivial⟩ ⟨np, np, np, trivial⟩); (try dsimp only)
             exact ⟨by omega, hiv, hgc, hst.symm, hJ, hcnt⟩)
          | (have hneg : f (ix (gC L j)) < 0 := Int.not_le.1 (by assumption : ¬ f (10 * (gC L j).2.toNat + (gC L j).1.toNat) ≥ 0)
             have hp := hJ.push hs (gC_mem hiv) hH hneg
             have hor := (by assumption : g (10 * (gC L j).2.toNat + (gC L j).1.toNat) = 0 ∨ g (10 * (gC L j).2.toNat + (gC L j).1.toNat) = 3)
             replace hst := hst.trans (visit_yes ⟨hH, by first | exact .inl (by assumption) | exact hor.imp id fun h => ⟨rfl, h⟩⟩ hneg)
             (refine W.nxt (j + 1, qv ++ [gC L j], gset f (ix (gC L j)) (f (ix (gC qv i)) + 1)) (by first | omega | (dsimp only; omega)) ?_ ⟨rfl, rfl, trivial⟩ ⟨rfl, rfl, rfl, trivial⟩ ⟨rfl, rfl, rfl, rfl, rfl, rfl, trivial⟩ ⟨rfl, trivial⟩ ⟨np, np, np, trivial⟩); (try dsimp only)
             refine ⟨by omega, by rw [List.length_append]; omega, by rw [gC_left hiv, hgc], ?_, hp.1, by rw [List.length_append, List.length_singleton]; omega⟩
             rw [hst, hgc, List.drop_append_of_le_length (by omega)])
      · have hjl : j = L.length := by omega
        repeat' first | ((with_reducible apply WR.mv); exact rfl; exact rfl) | ((with_reducible apply WR.lss); exact rfl; exact rfl; exact rfl) | ((with_reducible apply WR.ad); exact rfl; exact rfl; exact rfl; (first | exact i64_in _ (by omega))) | ((with_reducible apply WR.nil)) | (with_reducible refine andThen_n ?_) | (with_reducible refine andThen_x ?_) | (with_reducible refine inB_n ?_) | (with_reducible refine inB_x ?_) | (with_reducible refine W.seq ?_) | (with_reducible refine W.region ?_) | (with_reducible refine W.exit ?_) | ((with_reducible apply W.condF); exact rfl) | (intro hb; try (exfalso; omega)) | ((with_reducible apply WR.le); exact rfl; exact rfl)
        (refine W.nxt (i + 1, qv, f, m) (by first | omega | (dsimp only; omega)) ?_ ⟨rfl, rfl, trivial⟩ ⟨rfl, rfl, trivial⟩ ⟨rfl, rfl, rfl, rfl, trivial⟩ ⟨rfl, trivial⟩ ⟨np, np, np, trivial⟩); (try dsimp only)
        rw [hjl, List.take_length] at hfold
        exact ⟨by omega, by rw [hR, ← hfold], by omega, hJ⟩
    · have hil : i = qu.length := by omega
      rw [hR, hil, List.drop_length, bfs_end]; rfl
end Go.DM
