/- Rows of letters and the pieces of a text: plain facts. -/
import Derived.Test.YtppmmeciihmnjaaDoorK283SplitK
import Derived.Test.YtppmmeciihmnjaaDoorK283Those
import Derived.Test.YtppmmeciihmnjaaDoorK283Dec
import Derived.Test.YtppmmeciihmnjaaDoorK283RoundsText
import Derived.Test.YtppmmeciihmnjaaDoorK283Loop
set_option linter.unusedSimpArgs false
set_option linter.unusedVariables false
namespace Go.DM
/-- The letters of the first cells, line by line. -/
def textC (w : Int) (L : Cel → UInt8) (A : List Cel) : List UInt8 := A.flatMap fun c => L c :: if c.1 = w - 1 then [10] else []
/-- One row. -/
def rowL (L : Cel → UInt8) (W y : Nat) : List UInt8 := (List.range W).map fun (x : Nat) => L ((x : Int), (y : Int))
theorem rowL_len (L : Cel → UInt8) (W y : Nat) : (rowL L W y).length = W := by simp [rowL]
theorem rowL_at {L : Cel → UInt8} {W y x : Nat} (h : x < W) : (rowL L W y).getD x 0 = L ((x : Int), (y : Int)) := by
  simp [rowL, List.getD_eq_getElem?_getD, h]
theorem textC_app (w : Int) (L : Cel → UInt8) (A B : List Cel) : textC w L (A ++ B) = textC w L A ++ textC w L B := by simp [textC]
theorem textC_part (L : Cel → UInt8) (W y : Nat) : ∀ x, x ≤ W → textC (W : Int) L (cellsTo W (y * W + x)) = textC (W : Int) L (cellsTo W (y * W)) ++ (rowL L x y) ++ (if x = W ∧ 0 < W then [10] else [])
  | 0, _ => by
    rw [if_neg (by omega)]; simp [rowL]
  | x + 1, h => by
    rw [cellsTo_succ (by omega), textC_app, textC_part L W y x (by omega), if_neg (by omega)]
    have e : textC (W : Int) L [((x : Int), (y : Int))] = L ((x : Int), (y : Int)) :: if (x : Int) = W - 1 then [10] else [] := by simp [textC]
    rw [e]
    have er : rowL L (x + 1) y = rowL L x y ++ [L ((x : Int), (y : Int))] := by simp [rowL, List.range_succ]
    rw [er]
    by_cases hx : x + 1 = W
    · rw [if_pos (by omega), if_pos (by omega)]; simp
    · rw [if_neg (by omega), if_neg (by omega)]; simp
theorem textC_rows (L : Cel → UInt8) (W : Nat) (hW : 0 < W) : ∀ H, textC (W : Int) L (cellsTo W (H * W)) = (List.range H).flatMap fun y => rowL L W y ++ [10]
  | 0 => by simp [cellsTo, textC]
  | H + 1 => by
    have := textC_part L W H W (Nat.le_refl _)
    rw [if_pos ⟨rfl, hW⟩] at this
    rw [Nat.succ_mul, this, textC_rows L W hW H, List.range_succ, List.flatMap_append]
    simp
theorem textC_all (L : Cel → UInt8) (W H : Nat) (hW : 0 < W) : textC (W : Int) L (allC (W : Int) (H : Int)) = (List.range H).flatMap fun y => rowL L W y ++ [10] := by
  rw [allC, Int.toNat_natCast, Int.toNat_natCast, Nat.mul_comm, textC_rows L W hW H]
theorem pieces_line {c : UInt8} : ∀ {l : List UInt8} (r : List UInt8), c ∉ l → pieces c (l ++ c :: r) = l :: pieces c r
  | [], r, _ => pieces_hit c r
  | b :: l, r, h => by
    have hb : b ≠ c := fun e => h (by rw [e]; exact List.mem_cons_self ..)
    have ih := pieces_line (l := l) r (fun hh => h (List.mem_cons_of_mem _ hh))
    obtain ⟨p, ps, h1, h2⟩ := pieces_miss hb (l ++ c :: r)
    rw [List.cons_append, h2]
    rw [ih] at h1
    cases h1; rfl
theorem pieces_lines {c : UInt8} : ∀ (ls : List (List UInt8)) (r : List UInt8), (∀ l ∈ ls, c ∉ l) → pieces c (ls.flatMap (· ++ [c]) ++ r) = ls ++ pieces c r
  | [], r, _ => rfl
  | l :: ls, r, h => by
    rw [List.flatMap_cons, List.append_assoc, List.append_assoc, List.singleton_append, pieces_line _ (h l (List.mem_cons_self ..)), pieces_lines ls r fun l' hl' => h l' (List.mem_cons_of_mem _ hl')]
    rfl
/-- Pieces put together again. -/
def unp (c : UInt8) : List (List UInt8) → List UInt8
  | [] => []
  | [p] => p
  | p :: q :: r => p ++ c :: unp c (q :: r)
theorem unp_cons {c b : UInt8} {p : List UInt8} {ps : List (List UInt8)} : unp c ((b :: p) :: ps) = b :: unp c (p :: ps) := by
  cases ps with
  | nil => rfl
  | cons q r => rfl
theorem unp_pieces (c : UInt8) : ∀ s, unp c (pieces c s) = s
  | [] => rfl
  | b :: r => by
    by_cases h : b = c
    · subst h
      rw [pieces_hit]
      have := unp_pieces b r
      cases hp : pieces b r with
      | nil => exact absurd hp (pieces_ne b r)
      | cons p ps => rw [hp] at this; simp only [unp, List.nil_append, this]
    · obtain ⟨p, ps, h1, h2⟩ := pieces_miss h r
      have := unp_pieces c r
      rw [h1] at this
      rw [h2, unp_cons, this]
theorem unp_snoc (c : UInt8) (x : List UInt8) : ∀ A : List (List UInt8), unp c (A ++ [x]) = A.flatMap (· ++ [c]) ++ x
  | [] => rfl
  | [a] => by simp [unp]
  | a :: b :: r => by
    have := unp_snoc c x (b :: r)
    simp only [List.cons_append, unp, List.flatMap_cons] at this ⊢
    rw [this]; simp
theorem unp_inj {c : UInt8} {s t : List UInt8} (h : pieces c s = pieces c t) : s = t := by rw [← unp_pieces c s, h, unp_pieces]
theorem fm_congr {α β : Type} {f g : α → List β} : ∀ {l : List α}, (∀ x ∈ l, f x = g x) → l.flatMap f = l.flatMap g
  | [], _ => rfl
  | a :: l, h => by rw [List.flatMap_cons, List.flatMap_cons, h a (List.mem_cons_self ..), fm_congr fun x hx => h x (List.mem_cons_of_mem _ hx)]
theorem row_ext {l : List UInt8} {L : Cel → UInt8} {W y : Nat} (hl : l.length = W) (h : ∀ x : Nat, x < W → L ((x : Int), (y : Int)) = l.getD x 0) : rowL L W y = l := by
  apply List.ext_getElem?
  intro i
  by_cases hi : i < W
  · have := h i hi
    rw [List.getD_eq_getElem?_getD, List.getElem?_eq_getElem (by omega)] at this
    simp [rowL, hi, this, List.getElem?_eq_getElem (show i < l.length by omega)]
  · rw [List.getElem?_eq_none (by rw [rowL_len]; omega), List.getElem?_eq_none (by omega)]
end Go.DM

/- Rounds are read from their text: the plain part. -/
set_option linter.unusedSimpArgs false
set_option linter.unusedVariables false
set_option maxHeartbeats 4000000
namespace Go.DM
open Go.IntWalk
/-- A word's round, as the reference and as the program reads it. -/
def rdW (w : List UInt8) : Rnd := (gB w 1 - 48, decide (gB w 0 = 104))
def pW (w : List UInt8) : Rnd := (numL (w.drop 1), decide (gB w 0 = 104))
def rdA (s : List UInt8) : List Rnd := if s = [] then [] else (pieces 32 s).map rdW
def GoodR (s : List UInt8) : Prop := RndOk (rdA s) ∧ toldT (rdA s) = s
theorem digit_cases {n : Int} (h : 0 ≤ n ∧ n ≤ 9) : n = 0 ∨ n = 1 ∨ n = 2 ∨ n = 3 ∨ n = 4 ∨ n = 5 ∨ n = 6 ∨ n = 7 ∨ n = 8 ∨ n = 9 := by omega
theorem numL_digit {n : Int} (h : 0 ≤ n ∧ n ≤ 9) : numL [UInt8.ofNat (48 + n.toNat)] = n := by
  rcases digit_cases h with rfl | rfl | rfl | rfl | rfl | rfl | rfl | rfl | rfl | rfl <;> rfl
theorem byte_digit {n : Int} (h : 0 ≤ n ∧ n ≤ 9) : ((UInt8.ofNat (48 + n.toNat)).toNat : Int) - 48 = n := by
  rcases digit_cases h with rfl | rfl | rfl | rfl | rfl | rfl | rfl | rfl | rfl | rfl <;> rfl
theorem oneT_len (r : Rnd) : (oneT r).length = 2 := rfl
theorem head_oneT (r : Rnd) : decide (gB (oneT r) 0 = 104) = r.2 := by
  obtain ⟨x, y⟩ := r
  cases y <;> rfl
theorem head_ch (r : Rnd) : gB (oneT r) 0 = 99 ∨ gB (oneT r) 0 = 104 := by
  obtain ⟨x, y⟩ := r
  cases y
  · exact .inl rfl
  · exact .inr rfl
theorem rdW_oneT {r : Rnd} (h : 0 ≤ r.1 ∧ r.1 ≤ 9) : rdW (oneT r) = r := by
  refine Prod.ext ?_ (head_oneT r)
  exact byte_digit h
theorem pW_oneT {r : Rnd} (h : 0 ≤ r.1 ∧ r.1 ≤ 9) : pW (oneT r) = r := by
  refine Prod.ext ?_ (head_oneT r)
  exact numL_digit h
theorem oneT_digit {r : Rnd} (h : 0 ≤ r.1 ∧ r.1 ≤ 9) : 48 ≤ gB (oneT r) 1 ∧ gB (oneT r) 1 ≤ 57 := by
  have := byte_digit h
  show 48 ≤ ((UInt8.ofNat (48 + r.1.toNat)).toNat : Int) ∧ ((UInt8.ofNat (48 + r.1.toNat)).toNat : Int) ≤ 57
  omega
theorem oneT_32 {r : Rnd} (h : 0 ≤ r.1 ∧ r.1 ≤ 9) : (32 : UInt8) ∉ oneT r := by
  obtain ⟨x, y⟩ := r
  simp only at h
  rcases digit_cases h with rfl | rfl | rfl | rfl | rfl | rfl | rfl | rfl | rfl | rfl <;> cases y <;> decide
theorem unp_join (c : UInt8) : ∀ ls : List (List UInt8), unp c ls = Lib.join ls [c]
  | [] => rfl
  | [p] => by rw [Lib.join_one]; rfl
  | p :: q :: r => by
    have ih := unp_join c (q :: r)
    rw [Lib.join_cons] at ih ⊢
    simp only [unp, ih, Lib.joinTail, List.map_cons, List.flatten_cons]
    simp
theorem pieces_miss_all {c : UInt8} : ∀ {p : List UInt8}, c ∉ p → pieces c p = [p]
  | [], _ => rfl
  | b :: r, h => by
    have h1 : b ≠ c := fun e => h (by simp [e])
    have ih := pieces_miss_all (c := c) (p := r) (fun hh => h (by simp [hh]))
    obtain ⟨p, ps, e1, e2⟩ := pieces_miss h1 r
    rw [e2]; rw [ih] at e1; cases e1; rfl
theorem pieces_piece {c : UInt8} {t : List UInt8} : ∀ {p : List UInt8}, c ∉ p → pieces c (p ++ c :: t) = p :: pieces c t
  | [], _ => pieces_hit c t
  | b :: r, h => by
    have h1 : b ≠ c := fun e => h (by simp [e])
    have ih := pieces_piece (c := c) (t := t) (p := r) (fun hh => h (by simp [hh]))
    obtain ⟨p, ps, e1, e2⟩ := pieces_miss h1 (r ++ c :: t)
    show pieces c (b :: (r ++ c :: t)) = _
    rw [e2]; rw [ih] at e1; cases e1; rfl
theorem pieces_unp {c : UInt8} : ∀ {ls : List (List UInt8)}, ls ≠ [] → (∀ p ∈ ls, c ∉ p) → pieces c (unp c ls) = ls
  | [], h, _ => absurd rfl h
  | [p], _, h => pieces_miss_all (h p (by simp))
  | p :: q :: r, _, h => by
    have ih := pieces_unp (c := c) (ls := q :: r) (by simp) (fun x hx => h x (by simp at hx ⊢; right; exact hx))
    show pieces c (p ++ c :: unp c (q :: r)) = _
    rw [pieces_piece (h p (by simp)), ih]
theorem told_pieces {l : List Rnd} (h : ∀ r ∈ l, 0 ≤ r.1 ∧ r.1 ≤ 9) (h0 : l ≠ []) : pieces 32 (toldT l) = l.map oneT := by
  unfold toldT
  rw [← unp_join, pieces_unp (by simpa using h0)]
  intro p hp
  obtain ⟨r, hr, rfl⟩ := List.mem_map.1 hp
  exact oneT_32 (h r hr)
theorem map_id {α : Type} {f : α → α} : ∀ {l : List α}, (∀ x ∈ l, f x = x) → l.map f = l
  | [], _ => rfl
  | a :: l, h => by rw [List.map_cons, h a (List.mem_cons_self ..), map_id fun x hx => h x (List.mem_cons_of_mem _ hx)]
theorem told_ne {l : List Rnd} (h0 : l ≠ []) : toldT l ≠ [] := by
  cases l with
  | nil => exact absurd rfl h0
  | cons r l =>
    unfold toldT
    rw [List.map_cons, Lib.join_cons]
    simp [oneT]
/-- What is told is read again. -/
theorem rdA_told {l : List Rnd} (h : RndOk l) : rdA (toldT l) = l := by
  by_cases h0 : l = []
  · subst h0; rfl
  · rw [rdA, if_neg (told_ne h0), told_pieces h.1 h0, List.map_map]
    exact map_id fun r hr => rdW_oneT (h.1 r hr)
theorem goodR_told {l : List Rnd} (h : RndOk l) {s : List UInt8} (e : toldT l = s) : GoodR s ∧ rdA s = l := by
  subst e
  rw [GoodR, rdA_told h]
  exact ⟨⟨h, rfl⟩, rfl⟩
/-- The words of a good text. -/
theorem goodR_words {s : List UInt8} (h0 : s ≠ []) (g : GoodR s) : pieces 32 s = (rdA s).map oneT := by
  have hn : rdA s ≠ [] := fun e => h0 (by have := g.2; rw [e] at this; exact this.symm)
  conv => lhs; rw [← g.2]
  exact told_pieces g.1.1 hn
theorem goodR_word {s : List UInt8} {ls : List (List UInt8)} (h0 : s ≠ []) (hls : pieces 32 s = ls) (g : GoodR s) {i : Nat} (hi : i < ls.length) : ∃ r : Rnd, (0 ≤ r.1 ∧ r.1 ≤ 9) ∧ gS ls i = oneT r := by
  have h := goodR_words h0 g
  rw [hls] at h
  have hl : ls.length = (rdA s).length := by rw [h, List.length_map]
  refine ⟨gO (rdA s) i, g.1.1 _ (gO_mem (by omega)), ?_⟩
  rw [h]
  have e := gO_get (show i < (rdA s).length by omega)
  generalize gO (rdA s) i = r at e
  simp only [gS, List.getD_eq_getElem?_getD, List.getElem?_map, e]
  rfl
theorem goodR_len {s : List UInt8} {ls : List (List UInt8)} (h0 : s ≠ []) (hls : pieces 32 s = ls) (g : GoodR s) : ls.length ≤ 60 := by
  have h := goodR_words h0 g
  rw [hls] at h
  rw [h, List.length_map]
  exact g.1.2
/-- What the program read is what is to be read. -/
theorem goodR_pW {s : List UInt8} {ls : List (List UInt8)} (h0 : s ≠ []) (hls : pieces 32 s = ls) (g : GoodR s) : toldT (ls.map pW) = s := by
  have h := goodR_words h0 g
  rw [hls] at h
  have e : ls.map pW = rdA s := by
    rw [h, List.map_map]
    exact map_id fun r hr => pW_oneT (g.1.1 r hr)
  rw [e]; exact g.2
/-- Words of two letters, the first c or h, the second a digit. -/
def WordOk (w : List UInt8) : Prop := w.length = 2 ∧ (gB w 0 = 99 ∨ gB w 0 = 104) ∧ 48 ≤ gB w 1 ∧ gB w 1 ≤ 57
theorem oneT_rdW {w : List UInt8} (h : WordOk w) : oneT (rdW w) = w ∧ 0 ≤ (rdW w).1 ∧ (rdW w).1 ≤ 9 := by
  obtain ⟨hl, hc, hd⟩ := h
  match w, hl with
  | [a, b], _ =>
    have h0 : gB [a, b] 0 = (a.toNat : Int) := rfl
    have h1 : gB [a, b] 1 = (b.toNat : Int) := rfl
    rw [h1] at hd
    rw [h0] at hc
    refine ⟨?_, by show 0 ≤ (b.toNat : Int) - 48; omega, by show (b.toNat : Int) - 48 ≤ 9; omega⟩
    have e2 : UInt8.ofNat (48 + ((b.toNat : Int) - 48).toNat) = b := by
      rw [show 48 + ((b.toNat : Int) - 48).toNat = b.toNat by omega]; simp
    show [if decide ((a.toNat : Int) = 104) then 104 else 99, UInt8.ofNat (48 + ((b.toNat : Int) - 48).toNat)] = [a, b]
    rw [e2]
    rcases hc with hc | hc
    · have : a = 99 := UInt8.toNat_inj.1 (by exact_mod_cast hc)
      subst this; rfl
    · have : a = 104 := UInt8.toNat_inj.1 (by exact_mod_cast hc)
      subst this; rfl
theorem goodR_spec {s : List UInt8} {ls : List (List UInt8)} (h0 : s ≠ []) (hls : pieces 32 s = ls) (hw : ∀ w ∈ ls, WordOk w) (hO : RndOk (ls.map rdW)) : GoodR s ∧ rdA s = ls.map rdW := by
  refine goodR_told hO ?_
  unfold toldT
  rw [List.map_map, map_id (f := oneT ∘ rdW) fun w h => (oneT_rdW (hw w h)).1, ← unp_join, ← hls, unp_pieces]
end Go.DM

/- What the statements do with rows of cells and of numbers: they are compared, marked, and looked at again. -/
set_option linter.unusedSimpArgs false
set_option linter.unusedVariables false
set_option maxHeartbeats 4000000
namespace Go.DM
open Go.IntWalk

def marks (k : Int) (n : Nat) : List Cel := (List.range n).map fun (i : Nat) => (IntKind.i8.wrap (k + 2 * (i : Nat)), IntKind.i8.wrap (k + 2 * (i : Nat) + 1))
theorem marks_len (k : Int) (n : Nat) : (marks k n).length = n := by simp [marks]
theorem marks_get {k : Int} {n i : Nat} (h : i < n) : (marks k n)[i]? = some (IntKind.i8.wrap (k + 2 * (i : Nat)), IntKind.i8.wrap (k + 2 * (i : Nat) + 1)) := by simp [marks, h]
theorem marks_gC {k : Int} {n i : Nat} (h : i < n) : gC (marks k n) i = (IntKind.i8.wrap (k + 2 * (i : Nat)), IntKind.i8.wrap (k + 2 * (i : Nat) + 1)) := by
  simp [gC, List.getD_eq_getElem?_getD, marks_get h]
theorem mark_step {m : List Cel} {i : Nat} {a b : Int} (h : i < m.length) : (m.set i (a, (gC m i).2)).set i ((gC (m.set i (a, (gC m i).2)) i).1, b) = m.set i (a, b) := by
  rw [List.set_set]; congr 2; simp [gC, List.getD_eq_getElem?_getD, h]
theorem take_set_succ {α : Type} {m r : List α} {i : Nat} {c : α} (hi : i < m.length) (hr : r[i]? = some c) (ht : m.take i = r.take i) : (m.set i c).take (i + 1) = r.take (i + 1) := by
  rw [List.take_add_one, List.take_add_one, List.take_set_of_le (Nat.le_refl _), List.getElem?_set_self hi, ht, hr]
def marksI (k : Int) (n : Nat) : List Int := (List.range n).map fun (i : Nat) => k + (i : Nat)
theorem marksI_len (k : Int) (n : Nat) : (marksI k n).length = n := by simp [marksI]
theorem marksI_get {k : Int} {n i : Nat} (h : i < n) : (marksI k n)[i]? = some (k + (i : Nat)) := by simp [marksI, h]
theorem marksI_gI {k : Int} {n i : Nat} (h : i < n) : gI (marksI k n) i = k + (i : Nat) := by
  simp [gI, List.getD_eq_getElem?_getD, marksI_get h]
end Go.DM
