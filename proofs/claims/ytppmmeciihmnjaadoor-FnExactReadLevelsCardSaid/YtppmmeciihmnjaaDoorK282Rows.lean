/- Rounds are read from their text: the plain part. -/
import Derived.Test.YtppmmeciihmnjaaDoorK282Split
import Derived.Test.YtppmmeciihmnjaaDoorK282RowsPure
import Derived.Test.YtppmmeciihmnjaaDoorK282Loop
set_option linter.unusedSimpArgs false
set_option linter.unusedVariables false
set_option maxHeartbeats 4000000
namespace Go.DM
open Go.IntWalk
/-- A word's round, as the reference and as the program reads it. -/
def rdW (w : List UInt8) : Rnd := (gB w 1 - 48, decide (gB w 0 = 104))
def pW (w : List UInt8) : Rnd := (numL (w.drop 1), decide (gB w 0 = 104))
def rdA (s : List UInt8) : List Rnd := if s = [] then [] else (pieces 32 s).map rdW
def GoodR (s : List UInt8) : Prop := RndOk (rdA s) ∧ toldT (rdA s) = s
theorem digit_cases {n : Int} (h : 0 ≤ n ∧ n ≤ 9) : n = 0 ∨ n = 1 ∨ n = 2 ∨ n = 3 ∨ n = 4 ∨ n = 5 ∨ n = 6 ∨ n = 7 ∨ n = 8 ∨ n = 9 := by omega
theorem numL_digit {n : Int} (h : 0 ≤ n ∧ n ≤ 9) : numL [UInt8.ofNat (48 + n.toNat)] = n := by
  rcases digit_cases h with rfl | rfl | rfl | rfl | rfl | rfl | rfl | rfl | rfl | rfl <;> rfl
theorem byte_digit {n : Int} (h : 0 ≤ n ∧ n ≤ 9) : ((UInt8.ofNat (48 + n.toNat)).toNat : Int) - 48 = n := by
  rcases digit_cases h with rfl | rfl | rfl | rfl | rfl | rfl | rfl | rfl | rfl | rfl <;> rfl
theorem oneT_len (r : Rnd) : (oneT r).length = 2 := rfl
theorem head_oneT (r : Rnd) : decide (gB (oneT r) 0 = 104) = r.2 := by
  obtain ⟨x, y⟩ := r
  cases y <;> rfl
theorem head_ch (r : Rnd) : gB (oneT r) 0 = 99 ∨ gB (oneT r) 0 = 104 := by
  obtain ⟨x, y⟩ := r
  cases y
  · exact .inl rfl
  · exact .inr rfl
theorem rdW_oneT {r : Rnd} (h : 0 ≤ r.1 ∧ r.1 ≤ 9) : rdW (oneT r) = r := by
  refine Prod.ext ?_ (head_oneT r)
  exact byte_digit h
theorem pW_oneT {r : Rnd} (h : 0 ≤ r.1 ∧ r.1 ≤ 9) : pW (oneT r) = r := by
  refine Prod.ext ?_ (head_oneT r)
  exact numL_digit h
theorem oneT_digit {r : Rnd} (h : 0 ≤ r.1 ∧ r.1 ≤ 9) : 48 ≤ gB (oneT r) 1 ∧ gB (oneT r) 1 ≤ 57 := by
  have := byte_digit h
  show 48 ≤ ((UInt8.ofNat (48 + r.1.toNat)).toNat : Int) ∧ ((UInt8.ofNat (48 + r.1.toNat)).toNat : Int) ≤ 57
  omega
theorem oneT_32 {r : Rnd} (h : 0 ≤ r.1 ∧ r.1 ≤ 9) : (32 : UInt8) ∉ oneT r := by
  obtain ⟨x, y⟩ := r
  simp only at h
  rcases digit_cases h with rfl | rfl | rfl | rfl | rfl | rfl | rfl | rfl | rfl | rfl <;> cases y <;> decide
theorem unp_join (c : UInt8) : ∀ ls : List (List UInt8), unp c ls = Lib.join ls [c]
  | [] => rfl
  | [p] => by rw [Lib.join_one]; rfl
  | p :: q :: r => by
    have ih := unp_join c (q :: r)
    rw [Lib.join_cons] at ih ⊢
    simp only [unp, ih, Lib.joinTail, List.map_cons, List.flatten_cons]
    simp
theorem pieces_miss_all {c : UInt8} : ∀ {p : List UInt8}, c ∉ p → pieces c p = [p]
  | [], _ => rfl
  | b :: r, h => by
    have h1 : b ≠ c := fun e => h (by simp [e])
    have ih := pieces_miss_all (c := c) (p := r) (fun hh => h (by simp [hh]))
    obtain ⟨p, ps, e1, e2⟩ := pieces_miss h1 r
    rw [e2]; rw [ih] at e1; cases e1; rfl
theorem pieces_piece {c : UInt8} {t : List UInt8} : ∀ {p : List UInt8}, c ∉ p → pieces c (p ++ c :: t) = p :: pieces c t
  | [], _ => pieces_hit c t
  | b :: r, h => by
    have h1 : b ≠ c := fun e => h (by simp [e])
    have ih := pieces_piece (c := c) (t := t) (p := r) (fun hh => h (by simp [hh]))
    obtain ⟨p, ps, e1, e2⟩ := pieces_miss h1 (r ++ c :: t)
    show pieces c (b :: (r ++ c :: t)) = _
    rw [e2]; rw [ih] at e1; cases e1; rfl
theorem pieces_unp {c : UInt8} : ∀ {ls : List (List UInt8)}, ls ≠ [] → (∀ p ∈ ls, c ∉ p) → pieces c (unp c ls) = ls
  | [], h, _ => absurd rfl h
  | [p], _, h => pieces_miss_all (h p (by simp))
  | p :: q :: r, _, h => by
    have ih := pieces_unp (c := c) (ls := q :: r) (by simp) (fun x hx => h x (by simp at hx ⊢; right; exact hx))
    show pieces c (p ++ c :: unp c (q :: r)) = _
    rw [pieces_piece (h p (by simp)), ih]
theorem told_pieces {l : List Rnd} (h : ∀ r ∈ l, 0 ≤ r.1 ∧ r.1 ≤ 9) (h0 : l ≠ []) : pieces 32 (toldT l) = l.map oneT := by
  unfold toldT
  rw [← unp_join, pieces_unp (by simpa using h0)]
  intro p hp
  obtain ⟨r, hr, rfl⟩ := List.mem_map.1 hp
  exact oneT_32 (h r hr)
theorem map_id {α : Type} {f : α → α} : ∀ {l : List α}, (∀ x ∈ l, f x = x) → l.map f = l
  | [], _ => rfl
  | a :: l, h => by rw [List.map_cons, h a (List.mem_cons_self ..), map_id fun x hx => h x (List.mem_cons_of_mem _ hx)]
theorem told_ne {l : List Rnd} (h0 : l ≠ []) : toldT l ≠ [] := by
  cases l with
  | nil => exact absurd rfl h0
  | cons r l =>
    unfold toldT
    rw [List.map_cons, Lib.join_cons]
    simp [oneT]
/-- What is told is read again. -/
theorem rdA_told {l : List Rnd} (h : RndOk l) : rdA (toldT l) = l := by
  by_cases h0 : l = []
  · subst h0; rfl
  · rw [rdA, if_neg (told_ne h0), told_pieces h.1 h0, List.map_map]
    exact map_id fun r hr => rdW_oneT (h.1 r hr)
theorem goodR_told {l : List Rnd} (h : RndOk l) {s : List UInt8} (e : toldT l = s) : GoodR s ∧ rdA s = l := by
  subst e
  rw [GoodR, rdA_told h]
  exact ⟨⟨h, rfl⟩, rfl⟩
/-- The words of a good text. -/
theorem goodR_words {s : List UInt8} (h0 : s ≠ []) (g : GoodR s) : pieces 32 s = (rdA s).map oneT := by
  have hn : rdA s ≠ [] := fun e => h0 (by have := g.2; rw [e] at this; exact this.symm)
  conv => lhs; rw [← g.2]
  exact told_pieces g.1.1 hn
theorem goodR_word {s : List UInt8} {ls : List (List UInt8)} (h0 : s ≠ []) (hls : pieces 32 s = ls) (g : GoodR s) {i : Nat} (hi : i < ls.length) : ∃ r : Rnd, (0 ≤ r.1 ∧ r.1 ≤ 9) ∧ gS ls i = oneT r := by
  have h := goodR_words h0 g
  rw [hls] at h
  have hl : ls.length = (rdA s).length := by rw [h, List.length_map]
  refine ⟨gO (rdA s) i, g.1.1 _ (gO_mem (by omega)), ?_⟩
  rw [h]
  have e := gO_get (show i < (rdA s).length by omega)
  generalize gO (rdA s) i = r at e
  simp only [gS, List.getD_eq_getElem?_getD, List.getElem?_map, e]
  rfl
theorem goodR_len {s : List UInt8} {ls : List (List UInt8)} (h0 : s ≠ []) (hls : pieces 32 s = ls) (g : GoodR s) : ls.length ≤ 60 := by
  have h := goodR_words h0 g
  rw [hls] at h
  rw [h, List.length_map]
  exact g.1.2
/-- What the program read is what is to be read. -/
theorem goodR_pW {s : List UInt8} {ls : List (List UInt8)} (h0 : s ≠ []) (hls : pieces 32 s = ls) (g : GoodR s) : toldT (ls.map pW) = s := by
  have h := goodR_words h0 g
  rw [hls] at h
  have e : ls.map pW = rdA s := by
    rw [h, List.map_map]
    exact map_id fun r hr => pW_oneT (g.1.1 r hr)
  rw [e]; exact g.2
/-- Words of two letters, the first c or h, the second a digit. -/
def WordOk (w : List UInt8) : Prop := w.length = 2 ∧ (gB w 0 = 99 ∨ gB w 0 = 104) ∧ 48 ≤ gB w 1 ∧ gB w 1 ≤ 57
theorem oneT_rdW {w : List UInt8} (h : WordOk w) : oneT (rdW w) = w ∧ 0 ≤ (rdW w).1 ∧ (rdW w).1 ≤ 9 := by
  obtain ⟨hl, hc, hd⟩ := h
  match w, hl with
  | [a, b], _ =>
    have h0 : gB [a, b] 0 = (a.toNat : Int) := rfl
    have h1 : gB [a, b] 1 = (b.toNat : Int) := rfl
    rw [h1] at hd
    rw [h0] at hc
    refine ⟨?_, by show 0 ≤ (b.toNat : Int) - 48; omega, by show (b.toNat : Int) - 48 ≤ 9; omega⟩
    have e2 : UInt8.ofNat (48 + ((b.toNat : Int) - 48).toNat) = b := by
      rw [show 48 + ((b.toNat : Int) - 48).toNat = b.toNat by omega]; simp
    show [if decide ((a.toNat : Int) = 104) then 104 else 99, UInt8.ofNat (48 + ((b.toNat : Int) - 48).toNat)] = [a, b]
    rw [e2]
    rcases hc with hc | hc
    · have : a = 99 := UInt8.toNat_inj.1 (by exact_mod_cast hc)
      subst this; rfl
    · have : a = 104 := UInt8.toNat_inj.1 (by exact_mod_cast hc)
      subst this; rfl
theorem goodR_spec {s : List UInt8} {ls : List (List UInt8)} (h0 : s ≠ []) (hls : pieces 32 s = ls) (hw : ∀ w ∈ ls, WordOk w) (hO : RndOk (ls.map rdW)) : GoodR s ∧ rdA s = ls.map rdW := by
  refine goodR_told hO ?_
  unfold toldT
  rw [List.map_map, map_id (f := oneT ∘ rdW) fun w h => (oneT_rdW (hw w h)).1, ← unp_join, ← hls, unp_pieces]
end Go.DM

/- What the statements do with rows of cells and of numbers: they are compared, marked, and looked at again. -/
set_option linter.unusedSimpArgs false
set_option linter.unusedVariables false
set_option maxHeartbeats 4000000
namespace Go.DM
open Go.IntWalk

def marks (k : Int) (n : Nat) : List Cel := (List.range n).map fun (i : Nat) => (IntKind.i8.wrap (k + 2 * (i : Nat)), IntKind.i8.wrap (k + 2 * (i : Nat) + 1))
theorem marks_len (k : Int) (n : Nat) : (marks k n).length = n := by simp [marks]
theorem marks_get {k : Int} {n i : Nat} (h : i < n) : (marks k n)[i]? = some (IntKind.i8.wrap (k + 2 * (i : Nat)), IntKind.i8.wrap (k + 2 * (i : Nat) + 1)) := by simp [marks, h]
theorem marks_gC {k : Int} {n i : Nat} (h : i < n) : gC (marks k n) i = (IntKind.i8.wrap (k + 2 * (i : Nat)), IntKind.i8.wrap (k + 2 * (i : Nat) + 1)) := by
  simp [gC, List.getD_eq_getElem?_getD, marks_get h]
theorem mark_step {m : List Cel} {i : Nat} {a b : Int} (h : i < m.length) : (m.set i (a, (gC m i).2)).set i ((gC (m.set i (a, (gC m i).2)) i).1, b) = m.set i (a, b) := by
  rw [List.set_set]; congr 2; simp [gC, List.getD_eq_getElem?_getD, h]
theorem take_set_succ {α : Type} {m r : List α} {i : Nat} {c : α} (hi : i < m.length) (hr : r[i]? = some c) (ht : m.take i = r.take i) : (m.set i c).take (i + 1) = r.take (i + 1) := by
  rw [List.take_add_one, List.take_add_one, List.take_set_of_le (Nat.le_refl _), List.getElem?_set_self hi, ht, hr]
def marksI (k : Int) (n : Nat) : List Int := (List.range n).map fun (i : Nat) => k + (i : Nat)
theorem marksI_len (k : Int) (n : Nat) : (marksI k n).length = n := by simp [marksI]
theorem marksI_get {k : Int} {n i : Nat} (h : i < n) : (marksI k n)[i]? = some (k + (i : Nat)) := by simp [marksI, h]
theorem marksI_gI {k : Int} {n i : Nat} (h : i < n) : gI (marksI k n) i = k + (i : Nat) := by
  simp [gI, List.getD_eq_getElem?_getD, marksI_get h]
theorem eqInt8A10_gives (f : Nat → Int) : Gives G 174 [aa (rowI .i8 10 f), aa (rowI .i8 10 f)] (rb true) := by
  refine Gives.by rfl rfl (W.seq ?_)
  repeat' first | ((with_reducible apply WR.mv); exact rfl; exact rfl) | ((with_reducible apply WR.nil)) | (with_reducible refine andThen_n ?_) | (with_reducible refine W.seq ?_) | (with_reducible refine W.region ?_) | (with_reducible refine W.block ?_) | ((with_reducible apply WR.bx); exact rfl; exact rfl; exact (by first | exact rowI_len | exact rfl); (first | exact rfl))
  (refine (?_ : W _ (Code.loop _) _ _))
  (refine W.loopM [2, 3] [2, 3] [] (fun i : (Nat) => (10 - i : Nat)) (fun i : (Nat) => (i ≤ 10 : Prop)) (fun i : (Nat) => [(5, .a (.d (.s (.int .i64 (i : Nat)))))]) (fun i : (Nat) => []) 0 (by (try dsimp only); first | omega | exact trivial | exact ⟨by omega, rfl⟩ | exact ⟨by omega, by omega, rfl⟩ | (refine ⟨by omega, ?_⟩; simp; done) | (simp; done)) ⟨rfl, trivial⟩ trivial trivial ?_)
  rintro i σ hP hN; dsimp only [setL, putL] at hP ⊢
  repeat' first | ((with_reducible apply WR.mv); exact rfl; exact rfl) | ((with_reducible apply WR.nil)) | (with_reducible refine andThen_n ?_) | (with_reducible refine andThen_x ?_) | (with_reducible refine inB_n ?_) | (with_reducible refine inB_x ?_) | (with_reducible refine W.seq ?_) | (with_reducible refine W.region ?_) | (with_reducible refine W.skip ?_) | (with_reducible refine W.ret ?_) | (with_reducible refine W.exit ?_) | (with_reducible refine W.block ?_) | ((with_reducible apply W.condT); exact rfl) | ((with_reducible apply W.condF); exact rfl) | ((with_reducible apply Done.f); (intro hh hh2; exact (nomatch hh2)); (focus ((repeat' first | exact all_nil | apply all_cons | exact res_tmp rfl); done)); (focus ((repeat' first | exact all_nil | apply all_cons | exact retOf_s rfl); done)); exact rfl; (focus ((repeat' first | exact outs_nil | apply outs_d); done))) | ((with_reducible apply WH.nil)) | (with_reducible refine W.draw ?_) | (intro hb; try (exfalso; omega)) | ((with_reducible apply WH.mv); exact rfl; exact rfl; exact rfl) | ((with_reducible apply WH.ld); exact rfl; exact rfl; exact rfl; (first | exact ldR (by omega)); exact rfl) | ((with_reducible apply WH.ia); exact rfl; exact rfl; exact rfl; omega; exact rfl) | ((with_reducible apply WR.lss); exact rfl; exact rfl; exact rfl) | ((with_reducible apply WR.ad); exact rfl; exact rfl; exact rfl; (first | exact i64_in _ (by omega))) | ((with_reducible apply WH.neq); exact rfl; exact rfl; exact rfl)
  · (refine W.nxt (i + 1) (by first | omega | (dsimp only; omega)) ?_ ⟨rfl, trivial⟩ trivial ⟨rfl, rfl, trivial⟩ ⟨rfl, rfl, trivial⟩ trivial); (try dsimp only)
    omega
  · rfl
theorem eqLevels_gives (q : Nat → Int) : Gives G 165 [aa (grid .i8 q), aa (grid .i8 q)] (rb true) := by
  refine Gives.by rfl rfl (W.seq ?_)
  repeat' first | ((with_reducible apply WR.mv); exact rfl; exact rfl) | ((with_reducible apply WR.nil)) | (with_reducible refine andThen_n ?_) | (with_reducible refine W.seq ?_) | (with_reducible refine W.region ?_) | (with_reducible refine W.block ?_) | ((with_reducible apply WR.bx); exact rfl; exact rfl; exact (by first | exact grid_len | exact rfl); (first | exact rfl))
  (refine (?_ : W _ (Code.loop _) _ _))
  (refine W.loopM [2, 3] [2, 3] [] (fun i : (Nat) => (10 - i : Nat)) (fun i : (Nat) => (i ≤ 10 : Prop)) (fun i : (Nat) => [(5, .a (.d (.s (.int .i64 (i : Nat)))))]) (fun i : (Nat) => []) 0 (by (try dsimp only); first | omega | exact trivial | exact ⟨by omega, rfl⟩ | exact ⟨by omega, by omega, rfl⟩ | (refine ⟨by omega, ?_⟩; simp; done) | (simp; done)) ⟨rfl, trivial⟩ trivial trivial ?_)
  rintro i σ hP hN; dsimp only [setL, putL] at hP ⊢
  repeat' first | ((with_reducible apply WH.c_s (f := 174) (fn := Code.f174)); exact rfl; exact rfl; exact rfl; (first | exact rfl); (focus ((repeat' first | exact args_nil | apply args_d | exact toD_d rfl | exact all_nil | apply all_cons | exact rfl); done)); exact eqInt8A10_gives _; exact rfl) | ((with_reducible apply WR.mv); exact rfl; exact rfl) | ((with_reducible apply WR.nil)) | (with_reducible refine andThen_n ?_) | (with_reducible refine andThen_x ?_) | (with_reducible refine inB_n ?_) | (with_reducible refine inB_x ?_) | (with_reducible refine W.seq ?_) | (with_reducible refine W.region ?_) | (with_reducible refine W.skip ?_) | (with_reducible refine W.ret ?_) | (with_reducible refine W.exit ?_) | (with_reducible refine W.block ?_) | ((with_reducible apply W.condT); exact rfl) | ((with_reducible apply W.condF); exact rfl) | ((with_reducible apply Done.f); (intro hh hh2; exact (nomatch hh2)); (focus ((repeat' first | exact all_nil | apply all_cons | exact res_tmp rfl | exact rfl); done)); (focus ((repeat' first | exact all_nil | apply all_cons | exact retOf_s rfl | exact rfl); done)); exact rfl; (focus ((repeat' first | exact outs_nil | apply outs_d | exact rfl); done))) | ((with_reducible apply WH.nil)) | (with_reducible refine W.draw ?_) | (intro hb; try (exfalso; omega)) | ((with_reducible apply WH.mv); exact rfl; exact rfl; exact rfl) | ((with_reducible apply WH.ld); exact rfl; exact rfl; exact rfl; (first | exact ldRow (by omega) (by omega)); exact rfl) | ((with_reducible apply WH.ia); exact rfl; exact rfl; exact rfl; omega; exact rfl) | ((with_reducible apply WR.lss); exact rfl; exact rfl; exact rfl) | ((with_reducible apply WR.ad); exact rfl; exact rfl; exact rfl; (first | exact i64_in _ (by omega))) | ((with_reducible apply WH.un); exact rfl; exact rfl; exact rfl)
  · (refine W.nxt (i + 1) (by first | omega | (dsimp only; omega)) ?_ ⟨rfl, trivial⟩ trivial ⟨rfl, rfl, trivial⟩ ⟨rfl, rfl, trivial⟩ trivial); (try dsimp only)
    omega
  · rfl
end Go.DM
