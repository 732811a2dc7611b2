/- Those cells for which something holds; slices.Repeat; codes of cells that have to be open. -/
import Derived.Test.YteghgkdakhelfaaK191All
set_option linter.unusedSimpArgs false
set_option linter.unusedVariables false
set_option maxHeartbeats 4000000
namespace Go.DM
open Go.IntWalk
variable {w h : Int} {g : Nat → Int} {cs : List S}

theorem thoseNot_gives {x : D} {P : Cel → Prop} [DecidablePred P] {dom : Cel → Prop} (hx : HoldsC G x P dom) (u v : Int) (hd : dom (u, v)) : Gives G 64 [ac u v, .d (.refd x)] (rb (decide (¬ P (u, v)))) := by
  refine Gives.by rfl rfl (W.seq ?_)
  repeat' first | ((with_reducible apply WR.vh hx); exact rfl; exact rfl; exact rfl; exact hd) | ((with_reducible apply WR.nil)) | (with_reducible refine andThen_n ?_) | (with_reducible refine W.seq ?_) | (with_reducible refine W.region ?_) | (with_reducible refine W.ret ?_) | ((with_reducible apply Done.f); (intro hh hh2; exact (nomatch hh2)); (focus ((repeat' first | exact all_nil | apply all_cons | exact res_tmp rfl | exact rfl); done)); (focus ((repeat' first | exact all_nil | apply all_cons | exact retOf_s rfl | exact rfl); done)); exact rfl; (focus ((repeat' first | exact outs_nil | apply outs_d | exact rfl); done))) | (intro hb; try (exfalso; omega)) | ((with_reducible apply WR.mv); exact rfl; exact rfl) | ((with_reducible apply WR.ld); exact rfl; exact rfl; exact rfl; (first | exact ld2)) | ((with_reducible apply WR.lx); exact rfl; exact rfl) | ((with_reducible apply WR.bx); exact rfl; exact rfl; exact (by first | exact rfl); (first | exact rfl)) | ((with_reducible apply WR.un); exact rfl; exact rfl)
  · exact rb_f (fun h => h (by assumption))
  · exact rb_t (by assumption)
/-- Those of all cells. -/
def those (w h : Int) (P : Cel → Prop) [DecidablePred P] : List Cel := (allC w h).filter fun c => decide (P c)
theorem those_kept (P : Cel → Prop) [DecidablePred P] : kept (fun c => ¬ P c) (allC w h) = those w h P := by
  unfold kept those
  apply List.filter_congr
  intro c _
  simp
section
variable {dsts : Nat → Option Nat} {ops : List Oper} {Q : St → Prop} {σ : St} {gd : Option (Nat × Bool)} {l1 l2 l3 l4 : List Nat}
theorem WR.de0 {e p f : Nat} {fn : Fn} {z : D} {a b : Opd} {v : V} (P : Cel → Prop) [DecidablePred P] (l : List Cel) (hl : l.length ≤ 1000) (hf : G f = some fn) (hm : fn.muts = []) (hP : ∀ c ∈ l, Gives G f [ac c.1 c.2, .d z] (rb (decide (P c))))
    (hw : wanted dsts σ.env gd = some true) (ha : ev σ.env a = .a (.sl p 0 l.length 2)) (ho : σ.objs p = some (.flat false (encC l))) (hb : ev σ.env b = v) (hz : toDV (fun o => if [p].contains o then none else σ.objs o) depth v = some (.clo f [] [z])) (hv : mutIds [] [v] = [])
    (k : WR G dsts ops Q (set (some e) (.a (.sl p 0 (kept P l).length 2)) (put p (.flat false (encC (kept P l ++ List.replicate (l.length - (kept P l).length) (0, 0)))) σ))) : WR G dsts (⟨some e, .call 63 [a, b], gd, l1, l2, l3, l4⟩ :: ops) Q σ :=
  WR.de P l [] hl hf hm hP hw ha (by rw [ho, List.append_nil]) hb hz hv (by rw [List.append_nil]; exact k)
end
theorem those_gives (l : IsLawn w h g cs) (hs : 0 ≤ w ∧ w ≤ 10 ∧ 0 ≤ h ∧ h ≤ 10) {x : D} {P : Cel → Prop} [DecidablePred P] {dom : Cel → Prop} (hx : HoldsC G x P dom) (hd : ∀ c, Has w h c.1 c.2 → dom c) :
    Gives G 31 [aa cs, .d x] ⟨[.own (those w h P).length 2 (encC (those w h P))], []⟩ := by
  have hal := allC_len (w := w) (h := h) (by omega)
  have hmem := fun c => allC_mem (w := w) (h := h) (c := c)
  have hk := those_kept (w := w) (h := h) P
  obtain ⟨f, fn, pre, post, rfl, h1, h2, h3⟩ := id hx
  refine Gives.by rfl rfl (W.seq ?_)
  repeat' first | ((with_reducible apply WR.c_o (f := 33) (fn := Code.f33)); exact rfl; exact rfl; exact rfl; (first | exact rfl); (focus ((repeat' first | exact args_nil | apply args_d | exact toD_d rfl | exact rfl); done)); exact all_gives (by assumption) (by omega); (first | exact rfl)) | ((with_reducible apply WR.nil)) | (with_reducible refine andThen_n ?_) | (with_reducible refine W.seq ?_) | (with_reducible refine W.region ?_) | ((with_reducible apply WR.mv); exact rfl; exact rfl) | ((with_reducible apply WR.bx); exact rfl; exact rfl; exact (by first | exact IsLawn.len (by assumption) | exact rfl); (first | exact rfl)) | ((with_reducible apply WR.bo); exact rfl; exact rfl; (first | exact rfl)) | ((with_reducible apply WR.ld); exact rfl; exact rfl; exact rfl; (first | exact loadC_all (IsLawn.len (by assumption)))) | ((with_reducible apply WR.mf); exact rfl; exact rfl)
  refine WR.de0 (fun c => ¬ P c) (allC w h) (by omega) rfl rfl (fun c hc => thoseNot_gives hx c.1 c.2 (hd _ (hmem c hc))) rfl rfl rfl rfl rfl rfl ?_
  rw [hk]
  repeat' first | ((with_reducible apply WR.nil)) | (with_reducible refine andThen_n ?_) | (with_reducible refine W.ret ?_) | ((with_reducible apply Done.f); (intro hh hh2; exact (nomatch hh2)); (focus ((repeat' first | exact all_nil | apply all_cons | exact res_tmp rfl); done)); (focus ((repeat' first | exact all_nil | apply all_cons | exact retOf_o2 rfl rfl rfl); done)); exact rfl; (focus ((repeat' first | exact outs_nil | apply outs_d); done))) | ((with_reducible apply WR.mv); exact rfl; exact rfl)
  all_goals rfl
/-- The closures of a lawn. -/
theorem holds_grass (l : IsLawn w h g cs) (hs : w ≤ 10 ∧ h ≤ 10) : HoldsC G (.clo 32 [.agg cs] []) (fun c => Is w h g 0 c.1 c.2) (fun _ => True) :=
  ⟨32, Code.f32, _, _, rfl, rfl, rfl, fun c _ => grass_gives l c.1 c.2 (.inl hs)⟩
theorem holds_open (l : IsLawn w h g cs) (hs : w ≤ 10 ∧ h ≤ 10) : HoldsC G (.clo 77 [.agg cs] []) (fun c => Opn w h g c.1 c.2) (fun _ => True) :=
  ⟨77, Code.f77, _, _, rfl, rfl, rfl, fun c _ => open_gives l c.1 c.2 (.inl hs)⟩
theorem those_grass : those w h (fun c => Is w h g 0 c.1 c.2) = ofKind w h g 0 := by
  unfold those ofKind
  apply List.filter_congr
  intro c hc
  have := allC_mem hc
  rw [decide_eq_decide]
  exact ⟨fun h => h.2, fun h => ⟨this, h⟩⟩

/-! slices.Repeat. -/

theorem elems_sl {objs : Nat → Option Ob} {v : V} {o off n es : Nat} {b : Bool} {cs : List S} (hv : v = .a (.sl o off n es)) (ho : objs o = some (.flat b cs)) (hl : off + n * es ≤ cs.length) : elems objs es v = some (n, (cs.drop off).take (n * es)) := by
  subst hv; simp only [elems, ho]; rw [if_pos ⟨trivial, hl⟩]
theorem rep_list {n t k : Nat} (ht : t + k ≤ n) (hk : k ≤ t) :
    (rowI .i64 n (fun i => if i < t then -1 else 0)).take t ++ ((rowI .i64 n (fun i => if i < t then -1 else 0)).take t).take k ++ (rowI .i64 n (fun i => if i < t then -1 else 0)).drop (t + k) = rowI .i64 n (fun i => if i < t + k then -1 else 0) := by
  have hl := rowI_len (k := .i64) (n := n) (f := fun i => if i < t then -1 else 0)
  have h1 : ((rowI .i64 n (fun i => if i < t then -1 else 0)).take t).length = t := by rw [List.length_take]; omega
  have h2 : (((rowI .i64 n (fun i => if i < t then -1 else 0)).take t).take k).length = k := by rw [List.length_take]; omega
  refine List.ext_getElem? fun j => ?_
  by_cases hj : j < n
  · rw [rowI_get hj]
    by_cases hj1 : j < t
    · rw [List.append_assoc, List.getElem?_append_left (by omega), List.getElem?_take_of_lt hj1, rowI_get hj, if_pos hj1, if_pos (by omega)]
    · by_cases hj2 : j < t + k
      · rw [List.getElem?_append_left (by rw [List.length_append]; omega), List.getElem?_append_right (by omega), h1, List.getElem?_take_of_lt (by omega), List.getElem?_take_of_lt (by omega), rowI_get (by omega), if_pos (by omega), if_pos (by omega)]
      · rw [List.getElem?_append_right (by rw [List.length_append]; omega), List.length_append, h1, h2, List.getElem?_drop, show t + k + (j - (t + k)) = j by omega, rowI_get hj, if_neg (by omega), if_neg (by omega)]
  · rw [List.getElem?_eq_none (by rw [List.length_append, List.length_append, h1, h2, List.length_drop]; omega), List.getElem?_eq_none (by rw [rowI_len]; omega)]
theorem rep_first {n : Nat} (hn : 1 ≤ n) : (rowI .i64 n fun _ => 0).take 0 ++ [S.int .i64 (-1)].take (1 * 1) ++ (rowI .i64 n fun _ => 0).drop (0 + 1 * 1) = rowI .i64 n (fun i => if i < 1 then -1 else 0) := by
  obtain ⟨m, rfl⟩ : ∃ m, n = m + 1 := ⟨n - 1, by omega⟩
  simp [rowI, List.range_succ_eq_map]
end Go.DM

/- Steps from a cell: one way of counting them, on plain data; the reference's side. -/
set_option linter.unusedSimpArgs false
set_option linter.unusedVariables false
set_option maxHeartbeats 4000000
namespace Go.DM
open Go.IntWalk
variable {w h : Int} {g : Nat → Int} {cs : List S}

def visit (ok : Cel → Prop) [DecidablePred ok] (c : Cel) (s : (Nat → Int) × List Cel) (e : Cel) : (Nat → Int) × List Cel :=
  if ok e ∧ s.1 (ix e) < 0 then (gset s.1 (ix e) (s.1 (ix c) + 1), s.2 ++ [e]) else s
def bfs (ok : Cel → Prop) [DecidablePred ok] : Nat → (Nat → Int) × List Cel → (Nat → Int)
  | 0, s => s.1
  | _ + 1, (d, []) => d
  | n + 1, (d, c :: r) => bfs ok n ((Near c.1 c.2).foldl (visit ok c) (d, r))
/-- The steps from a cell to each cell, -1 where there are none. -/
def far (ok : Cel → Prop) [DecidablePred ok] (c : Cel) : Nat → Int := bfs ok 100 (gset (fun _ => -1) (ix c) 0, [c])
theorem bfs_end (ok : Cel → Prop) [DecidablePred ok] (d : Nat → Int) : ∀ n, bfs ok n (d, []) = d
  | 0 => rfl
  | n + 1 => rfl
def unk (d : Nat → Int) : Nat := ((List.range 100).filter fun k => decide (d k < 0)).length
theorem unk_cons (p p' : Nat → Bool) {k : Nat} : ∀ l : List Nat, l.Nodup → k ∈ l → p k = true → p' k = false → (∀ i, i ≠ k → p' i = p i) → (l.filter p').length + 1 = (l.filter p).length
  | [], _, h, _, _, _ => by cases h
  | x :: r, hn, hm, h1, h2, h3 => by
    rw [List.nodup_cons] at hn
    by_cases e : x = k
    · subst e
      have : r.filter p' = r.filter p := List.filter_congr fun i hi => h3 i fun e => by subst e; exact hn.1 hi
      simp [List.filter_cons, h1, h2, this]
    · have hm' : k ∈ r := by
        rcases List.mem_cons.1 hm with h | h
        · exact absurd h.symm e
        · exact h
      have ih := unk_cons p p' r hn.2 hm' h1 h2 h3
      rw [List.filter_cons, List.filter_cons, h3 x e]
      split <;> simp_all
theorem unk_set {d : Nat → Int} {k : Nat} {v : Int} (hk : k < 100) (h : d k < 0) (hv : 0 ≤ v) : unk (gset d k v) + 1 = unk d := by
  unfold unk
  refine unk_cons _ _ _ List.nodup_range (List.mem_range.2 hk) (by simpa using h) (by simp [gset]; omega) fun i hi => by simp [gset, hi]
structure BInv (w h : Int) (d : Nat → Int) (qu : List Cel) : Prop where
  lo : ∀ k, -1 ≤ d k
  hi : ∀ k, d k + unk d ≤ 100
  q : ∀ c ∈ qu, Has w h c.1 c.2 ∧ 0 ≤ d (ix c)
  len : qu.length + unk d ≤ 100
theorem BInv.push {d : Nat → Int} {qu : List Cel} (hs : w ≤ 10 ∧ h ≤ 10) (b : BInv w h d qu) {c e : Cel} (hc : c ∈ qu) (he : Has w h e.1 e.2) (hd : d (ix e) < 0) : BInv w h (gset d (ix e) (d (ix c) + 1)) (qu ++ [e]) ∧ unk (gset d (ix e) (d (ix c) + 1)) + 1 = unk d := by
  have h1 := b.q c hc
  have hk : ix e < 100 := by have := he; simp only [Has] at this; simp only [ix]; omega
  have hu := unk_set (v := d (ix c) + 1) hk hd (by omega)
  refine ⟨⟨fun k => ?_, fun k => ?_, fun a ha => ?_, ?_⟩, hu⟩
  · simp only [gset]; split
    · omega
    · exact b.lo k
  · have h2 := b.hi k
    have h3 := b.hi (ix c)
    simp only [gset] at hu ⊢; split <;> omega
  · rw [List.mem_append, List.mem_singleton] at ha
    rcases ha with ha | rfl
    · refine ⟨(b.q a ha).1, ?_⟩
      simp only [gset]; split
      · omega
      · exact (b.q a ha).2
    · exact ⟨he, by simp only [gset, if_true]; omega⟩
  · have := b.len
    rw [List.length_append, List.length_singleton]; omega
theorem BInv.first {c : Cel} (hs : w ≤ 10 ∧ h ≤ 10) (hc : Has w h c.1 c.2) : BInv w h (gset (fun _ => -1) (ix c) 0) [c] ∧ unk (gset (fun _ => -1) (ix c) 0) = 99 := by
  have hk : ix c < 100 := by have := hc; simp only [Has] at this; simp only [ix]; omega
  have hu := unk_set (d := fun _ => -1) (k := ix c) (v := 0) hk (by omega) (by omega)
  have h0 : unk (fun _ => -1) = 100 := by decide
  refine ⟨⟨fun k => ?_, fun k => ?_, fun a ha => ?_, ?_⟩, by omega⟩
  · simp only [gset]; split <;> omega
  · simp only [gset] at hu ⊢; split <;> omega
  · rw [List.mem_singleton] at ha; subst ha; exact ⟨hc, by simp [gset]⟩
  · simp; omega
theorem fold_skip {α β : Type} {f : β → α → β} {p : α → Bool} (hf : ∀ s e, p e = false → f s e = s) : ∀ (l : List α) (s : β), (l.filter p).foldl f s = l.foldl f s
  | [], s => rfl
  | x :: r, s => by
    rw [List.filter_cons, List.foldl_cons]
    split
    · rw [List.foldl_cons]; exact fold_skip hf r _
    · rename_i h
      rw [hf s x (by simpa using h)]; exact fold_skip hf r s
theorem fold_snoc {α β : Type} {f : β → α → β} {l : List α} {i : Nat} {a : α} (s : β) (h : l[i]? = some a) : (l.take (i + 1)).foldl f s = f ((l.take i).foldl f s) a := by
  rw [List.take_add_one, h, List.foldl_append]; rfl
/-- To which cells steps may go, for the reference: open ones, or grass alone. -/
def okS (w h : Int) (g : Nat → Int) (b : Bool) (c : Cel) : Prop := Has w h c.1 c.2 ∧ (g (ix c) = 0 ∨ (b = false ∧ g (ix c) = 3))
instance (w h : Int) (g : Nat → Int) (b : Bool) : DecidablePred (okS w h g b) := fun c => inferInstanceAs (Decidable (_ ∧ _))
theorem inside_fold (b : Bool) (c : Cel) (s : (Nat → Int) × List Cel) : (inside w h (Near c.1 c.2)).foldl (visit (okS w h g b) c) s = (Near c.1 c.2).foldl (visit (okS w h g b) c) s := by
  unfold inside
  refine fold_skip (fun s e he => ?_) _ _
  have : ¬ Has w h e.1 e.2 := by simpa using he
  simp only [visit]
  rw [if_neg fun hh => this hh.1.1]
theorem bfs_step {ok : Cel → Prop} [DecidablePred ok] {d : Nat → Int} {qu : List Cel} {i n : Nat} (hi : i < qu.length) : bfs ok (n + 1) (d, qu.drop i) = bfs ok n ((Near (gC qu i).1 (gC qu i).2).foldl (visit ok (gC qu i)) (d, qu.drop (i + 1))) := by
  have : qu.drop i = gC qu i :: qu.drop (i + 1) := by
    have h1 := gC_get hi
    obtain ⟨h2, h3⟩ := List.getElem?_eq_some_iff.1 h1
    rw [List.drop_eq_getElem_cons h2, h3]
  rw [this]; rfl
theorem inside_has {c e : Cel} (he : e ∈ inside w h (Near c.1 c.2)) : Has w h e.1 e.2 := by
  unfold inside at he; rw [List.mem_filter] at he; simpa using he.2

theorem gC_left {l r : List Cel} {i : Nat} (hi : i < l.length) : gC (l ++ r) i = gC l i := by
  simp [gC, List.getD_eq_getElem?_getD, List.getElem?_append_left hi]
theorem okS_no {b : Bool} {c : Cel} (hn : ¬ (g (ix c) = 0 ∨ g (ix c) = 3) ∨ (b = true ∧ ¬ g (ix c) = 0)) : ¬ okS w h g b c := by
  rintro ⟨_, h1⟩
  rcases hn with h2 | ⟨rfl, h2⟩
  · exact h2 (h1.imp id fun h => h.2)
  · rcases h1 with h1 | h1
    · exact h2 h1
    · cases h1.1
theorem visit_no {ok : Cel → Prop} [DecidablePred ok] {c e : Cel} {s : (Nat → Int) × List Cel} (hn : ¬ ok e ∨ 0 ≤ s.1 (ix e)) : visit ok c s e = s := by
  unfold visit
  rw [if_neg (by rintro ⟨h1, h2⟩; rcases hn with h | h; exact h h1; omega)]
theorem visit_yes {ok : Cel → Prop} [DecidablePred ok] {c e : Cel} {s : (Nat → Int) × List Cel} (h1 : ok e) (h2 : s.1 (ix e) < 0) : visit ok c s e = (gset s.1 (ix e) (s.1 (ix c) + 1), s.2 ++ [e]) := by
  unfold visit
  rw [if_pos ⟨h1, h2⟩]
theorem grid_congr {k : IntKind} {q q' : Nat → Int} (h : ∀ i, i < 100 → q i = q' i) : grid k q = grid k q' := by
  unfold grid
  apply List.map_congr_left
  intro i hi
  rw [h i (List.mem_range.1 hi)]
end Go.DM
