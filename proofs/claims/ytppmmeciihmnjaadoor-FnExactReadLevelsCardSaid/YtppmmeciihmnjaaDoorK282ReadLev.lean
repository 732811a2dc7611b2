/- strings.FieldsFunc at spaces and line ends, of words that are letters of one byte: the words. -/
import Derived.Test.YtppmmeciihmnjaaDoorK282Given
import Derived.Laws.RangeString
import Derived.Test.YtppmmeciihmnjaaDoorK282All
import Derived.Test.YtppmmeciihmnjaaDoorK282LevText
import Derived.Test.YtppmmeciihmnjaaDoorK282Rows
import Derived.Test.YtppmmeciihmnjaaDoorK282MarkR
set_option linter.unusedSimpArgs false
set_option linter.unusedVariables false
namespace Go.DM
open Go.Lib
/-- Words, each with what stands behind it. -/
def sepd (l : List (List UInt8 × UInt8)) : List UInt8 := l.flatMap fun p => p.1 ++ [p.2]
def WordB (b : UInt8) : Prop := b.toNat < 128 ∧ b.toNat ≠ 32 ∧ b.toNat ≠ 10
theorem get_data (S : List UInt8) (s : ByteArray) (hS : s.data.toList = S) (k : Nat) (hk : k < s.size) : (s[k]'hk) = S.getD k 0 := by
  subst hS
  have h1 : k < s.data.size := hk
  have h2 : k < s.data.toList.length := by simpa using h1
  show s.data[k] = _
  rw [List.getD_eq_getElem?_getD, List.getElem?_eq_getElem h2]
  simp
theorem decode_at {s : ByteArray} {P T : List UInt8} {b : UInt8} (hS : s.data.toList = P ++ b :: T) (hb : b.toNat < 128) : P.length < s.size ∧ Utf8.decode s P.length = (b.toNat, 1) := by
  have hlen : s.size = (P ++ b :: T).length := by rw [← hS]; simp
  have hk : P.length < s.size := by rw [hlen]; simp
  have e : (s[P.length]'hk) = b := by
    rw [get_data _ s hS _ hk]; simp [List.getD_eq_getElem?_getD]
  refine ⟨hk, ?_⟩
  have := decode_ascii s P.length hk (by rw [e]; exact hb)
  rw [this, e]
theorem spans_in {s : ByteArray} {T : List UInt8} {a : Nat} {acc : List (Nat × Nat)} {f : Nat} : ∀ (w P : List UInt8), s.data.toList = P ++ (w ++ T) → (∀ b ∈ w, WordB b) →
    spansFromP spP s (f + w.length) P.length (some a) acc = spansFromP spP s f (P.length + w.length) (some a) acc
  | [], P, _, _ => rfl
  | b :: w, P, hS, hw => by
    obtain ⟨h1, h2, h3⟩ := hw b (List.mem_cons_self ..)
    obtain ⟨hk, hd⟩ := decode_at (P := P) (T := w ++ T) hS h1
    have ih := spans_in (f := f) (a := a) (acc := acc) (T := T) w (P ++ [b]) (by rw [hS]; simp) (fun x hx => hw x (List.mem_cons_of_mem _ hx))
    have hp : spP b.toNat = false := by simp [spP, h2, h3]
    rw [List.length_cons, ← Nat.add_assoc, spansFromP, if_pos hk, hd]
    simp only [hp, Bool.false_eq_true, if_false]
    rw [List.length_append, List.length_singleton] at ih
    rw [ih]; congr 1; omega
theorem spans_word {s : ByteArray} {T w P : List UInt8} {c : UInt8} {acc : List (Nat × Nat)} {f : Nat} (hS : s.data.toList = P ++ (w ++ c :: T)) (h0 : w ≠ []) (hw : ∀ b ∈ w, WordB b) (hc : c.toNat = 32 ∨ c.toNat = 10) :
    spansFromP spP s (f + (w.length + 1)) P.length none acc = spansFromP spP s f (P.length + (w.length + 1)) none (acc ++ [(P.length, P.length + w.length)]) := by
  cases w with
  | nil => exact absurd rfl h0
  | cons b w =>
    obtain ⟨h1, h2, h3⟩ := hw b (List.mem_cons_self ..)
    obtain ⟨hk, hd⟩ := decode_at (P := P) (T := w ++ c :: T) hS h1
    have hp : spP b.toNat = false := by simp [spP, h2, h3]
    have hS2 : s.data.toList = (P ++ [b]) ++ (w ++ c :: T) := by rw [hS]; simp
    have h4 := spans_in (f := f + 1) (a := P.length) (acc := acc) w (P ++ [b]) hS2 (fun x hx => hw x (List.mem_cons_of_mem _ hx))
    have hS3 : s.data.toList = (P ++ (b :: w)) ++ c :: T := by rw [hS]; simp
    obtain ⟨hk2, hd2⟩ := decode_at (P := P ++ (b :: w)) (T := T) hS3 (by omega)
    have hp2 : spP c.toNat = true := by
      rcases hc with hc | hc <;> simp [spP, hc]
    rw [List.length_append, List.length_singleton] at h4
    rw [List.length_append, List.length_cons] at hk2 hd2
    rw [List.length_cons, show f + (w.length + 1 + 1) = (f + 1 + w.length) + 1 by omega, spansFromP, if_pos hk, hd]
    simp only [hp, Bool.false_eq_true, if_false]
    rw [h4, show P.length + 1 + w.length = P.length + (w.length + 1) by omega, spansFromP, if_pos hk2, hd2]
    simp only [hp2, if_true]
    rfl
def spansL (o : Nat) : List (List UInt8 × UInt8) → List (Nat × Nat)
  | [] => []
  | p :: l => (o, o + p.1.length) :: spansL (o + (p.1.length + 1)) l
def WordsOk (l : List (List UInt8 × UInt8)) : Prop := ∀ p ∈ l, p.1 ≠ [] ∧ (∀ b ∈ p.1, WordB b) ∧ (p.2.toNat = 32 ∨ p.2.toNat = 10)
theorem sepd_cons (p : List UInt8 × UInt8) (l : List (List UInt8 × UInt8)) : sepd (p :: l) = p.1 ++ p.2 :: sepd l := by simp [sepd]
theorem spans_all {s : ByteArray} : ∀ (l : List (List UInt8 × UInt8)) (P : List UInt8) (acc : List (Nat × Nat)), s.data.toList = P ++ sepd l → WordsOk l →
    spansFromP spP s (sepd l).length P.length none acc = (acc ++ spansL P.length l, none)
  | [], P, acc, hS, _ => by simp [sepd, spansFromP, spansL]
  | p :: l, P, acc, hS, h => by
    obtain ⟨h0, hw, hc⟩ := h p (List.mem_cons_self ..)
    rw [sepd_cons] at hS
    have h1 := spans_word (f := (sepd l).length) (acc := acc) hS h0 hw hc
    have ih := spans_all l (P ++ p.1 ++ [p.2]) (acc ++ [(P.length, P.length + p.1.length)]) (by rw [hS]; simp) (fun x hx => h x (List.mem_cons_of_mem _ hx))
    rw [List.length_append, List.length_append, List.length_singleton, Nat.add_assoc] at ih
    rw [sepd_cons, List.length_append, List.length_cons, show p.1.length + ((sepd l).length + 1) = (sepd l).length + (p.1.length + 1) by omega, h1, ih]
    simp [spansL]
theorem extract_all {s : ByteArray} : ∀ (l : List (List UInt8 × UInt8)) (P : List UInt8), s.data.toList = P ++ sepd l → (spansL P.length l).map (fun x => (s.extract x.1 x.2).data.toList) = l.map (·.1)
  | [], P, _ => rfl
  | p :: l, P, hS => by
    rw [sepd_cons] at hS
    have ih := extract_all l (P ++ p.1 ++ [p.2]) (by rw [hS]; simp)
    rw [List.length_append, List.length_append, List.length_singleton, Nat.add_assoc] at ih
    rw [spansL, List.map_cons, List.map_cons, ih]
    congr 1
    have e : (s.extract P.length (P.length + p.1.length)).data.toList = ((s.data.toList).drop P.length).take p.1.length := by
      rw [ByteArray.data_extract, Array.toList_extract, List.extract_eq_take_drop]
      congr 1; omega
    rw [e, hS, List.drop_left, List.take_left]
theorem fieldsL_sepd {l : List (List UInt8 × UInt8)} (h : WordsOk l) : fieldsL (sepd l) = l.map (·.1) := by
  have hS : (⟨(sepd l).toArray⟩ : ByteArray).data.toList = [] ++ sepd l := rfl
  have h1 := spans_all l [] [] hS h
  have h2 := extract_all l [] hS
  have hz : (⟨(sepd l).toArray⟩ : ByteArray).size = (sepd l).length := by
    show (sepd l).toArray.size = _
    simp
  unfold fieldsL goFieldsP spansOfP
  rw [hz]
  rw [List.length_nil] at h1 h2
  rw [h1, List.map_map]
  exact h2
end Go.DM

/- Levels are read from their text: the plain part. -/
set_option linter.unusedSimpArgs false
set_option linter.unusedVariables false
set_option maxHeartbeats 4000000
namespace Go.DM
open Go.IntWalk
variable {w h : Int} {g : Nat → Int}
/-- A word's number, maybe with a sign, as the reference reads it. -/
def numN (s : List UInt8) : Int := if NumOk s then numV s else 0
def sgN (s : List UInt8) : Int := if s ≠ [] ∧ gB s 0 = 45 then - numN (s.drop 1) else numN s
def sgB (s : List UInt8) : Bool := if s ≠ [] ∧ gB s 0 = 45 then decide (NumOk (s.drop 1) ∧ 0 < numN (s.drop 1)) else decide (NumOk s)
theorem item_cases {n : Int} (h : -9 ≤ n ∧ n ≤ 9) : n = -9 ∨ n = -8 ∨ n = -7 ∨ n = -6 ∨ n = -5 ∨ n = -4 ∨ n = -3 ∨ n = -2 ∨ n = -1 ∨ n = 0 ∨ n = 1 ∨ n = 2 ∨ n = 3 ∨ n = 4 ∨ n = 5 ∨ n = 6 ∨ n = 7 ∨ n = 8 ∨ n = 9 := by omega
theorem item_read {n : Int} (h : -9 ≤ n ∧ n ≤ 9) : sgN (itemT n) = n ∧ sgB (itemT n) = true ∧ numL (itemT n) = n ∧ itemT n ≠ [] ∧ ∀ b ∈ itemT n, WordB b := by
  rcases item_cases h with rfl | rfl | rfl | rfl | rfl | rfl | rfl | rfl | rfl | rfl | rfl | rfl | rfl | rfl | rfl | rfl | rfl | rfl | rfl
  all_goals refine ⟨by decide +kernel, by decide +kernel, by decide +kernel, by decide +kernel, ?_⟩
  all_goals
    intro b hb
    simp [itemT] at hb
    unfold WordB
    first
      | (rcases hb with rfl | rfl <;> decide)
      | (subst hb; decide)
theorem item_not {n : Int} (h : -9 ≤ n ∧ n ≤ 9) {c : UInt8} (hc : c.toNat = 32 ∨ c.toNat = 10) : c ∉ itemT n := fun hh => by
  obtain ⟨_, h2, h3⟩ := (item_read h).2.2.2.2 c hh
  omega
def InL (q : Nat → Int) : Prop := ∀ k, k < 100 → -9 ≤ q k ∧ q k ≤ 9
theorem rowsT_map (q : Nat → Int) (W : Nat) : ∀ H, rowsT q W H = ((List.range H).map fun y => rowT q y W).flatMap (· ++ [10])
  | 0 => rfl
  | H + 1 => by
    rw [rowsT, rowsT_map q W H, List.range_succ, List.map_append, List.flatMap_append]
    simp
theorem rowT_words {q : Nat → Int} (hq : InL q) {W y : Nat} (hW : 1 ≤ W ∧ W ≤ 10) (hy : y < 10) : pieces 32 (rowT q y W) = (List.range W).map fun k => itemT (q (10 * y + k)) := by
  unfold rowT
  rw [← unp_join, pieces_unp]
  · intro e
    have := congrArg List.length e
    rw [List.length_map, List.length_range, List.length_nil] at this; omega
  · intro p hp
    obtain ⟨k, hk, rfl⟩ := List.mem_map.1 hp
    rw [List.mem_range] at hk
    exact item_not (hq _ (by omega)) (.inl rfl)
theorem join_mem {b c : UInt8} : ∀ {ls : List (List UInt8)}, b ∈ Lib.join ls [c] → b = c ∨ ∃ l ∈ ls, b ∈ l
  | [], h => by rw [Lib.join_nil] at h; cases h
  | l :: ls, h => by
    rw [Lib.join_cons, List.mem_append] at h
    rcases h with h | h
    · exact .inr ⟨l, by simp, h⟩
    · unfold Lib.joinTail at h
      obtain ⟨l', h1, h2⟩ := List.mem_flatten.1 h
      obtain ⟨l2, h3, rfl⟩ := List.mem_map.1 h1
      rw [List.mem_append, List.mem_singleton] at h2
      rcases h2 with h2 | h2
      · exact .inl h2
      · exact .inr ⟨l2, by simp [h3], h2⟩
theorem rows_lines {q : Nat → Int} (hq : InL q) {W H : Nat} (hW : 1 ≤ W ∧ W ≤ 10) (hH : H ≤ 10) : pieces 10 (rowsT q W H) = ((List.range H).map fun y => rowT q y W) ++ [[]] := by
  have := pieces_lines (c := 10) ((List.range H).map fun y => rowT q y W) [] (fun l hl hh => by
    obtain ⟨y, hy, rfl⟩ := List.mem_map.1 hl
    rw [List.mem_range] at hy
    unfold rowT at hh
    rcases join_mem hh with h1 | ⟨l', h1, h2⟩
    · exact absurd h1 (by decide)
    · obtain ⟨k, hk, rfl⟩ := List.mem_map.1 h1
      rw [List.mem_range] at hk
      exact item_not (hq _ (by omega)) (.inr rfl) h2)
  rw [List.append_nil] at this
  rw [rowsT_map, this]; rfl
/-- What is read at a cell; all of it. -/
def wordA (s : List UInt8) (k : Nat) : List UInt8 := gS (pieces 32 (gS (pieces 10 s) (k / 10))) (k % 10)
def rdL (s : List UInt8) (W y x : Nat) (k : Nat) : Int := if (k / 10 < y ∨ (k / 10 = y ∧ k % 10 < x)) ∧ k % 10 < W then sgN (wordA s k) else 0
def lvA (s : List UInt8) (W H : Nat) : Nat → Int := rdL s W H 0
def GoodL (w h : Int) (g : Nat → Int) (s : List UInt8) (W H : Nat) : Prop := LevOk w h g (lvA s W H) ∧ rowsT (lvA s W H) W H = s
theorem wordA_rows {q : Nat → Int} (hq : InL q) {W H : Nat} (hW : 1 ≤ W ∧ W ≤ 10) (hH : H ≤ 10) {k : Nat} (h1 : k / 10 < H) (h2 : k % 10 < W) : wordA (rowsT q W H) k = itemT (q k) := by
  unfold wordA
  rw [rows_lines hq hW hH]
  have e1 : gS (((List.range H).map fun y => rowT q y W) ++ [[]]) (k / 10) = rowT q (k / 10) W := by
    simp [gS, List.getD_eq_getElem?_getD, List.getElem?_append_left, h1]
  rw [e1, rowT_words hq hW (by omega)]
  simp only [gS, List.getD_eq_getElem?_getD, List.getElem?_map, List.getElem?_range h2]
  show itemT (q (10 * (k / 10) + k % 10)) = _
  rw [Nat.div_add_mod]
theorem rowT_congr {p q : Nat → Int} {W y : Nat} (h : ∀ k, k < W → p (10 * y + k) = q (10 * y + k)) : rowT p y W = rowT q y W := by
  unfold rowT
  congr 1
  exact List.map_congr_left fun k hk => by rw [h k (List.mem_range.1 hk)]
theorem rowsT_congr {p q : Nat → Int} {W : Nat} : ∀ {H : Nat}, (∀ y, y < H → ∀ k, k < W → p (10 * y + k) = q (10 * y + k)) → rowsT p W H = rowsT q W H
  | 0, _ => rfl
  | H + 1, h => by
    rw [rowsT, rowsT, rowsT_congr (H := H) fun y hy => h y (by omega), rowT_congr (h H (by omega))]
theorem levOk_congr {p q : Nat → Int} (h0 : ∀ k, k < 100 → p k = q k) (hp : LevOk w h g p) : LevOk w h g q :=
  ⟨hp.1, fun k hk => by have := hp.2 k hk; unfold levCell at this ⊢; rw [← h0 k hk]; exact this⟩
theorem levOk_in {q : Nat → Int} (hp : LevOk w h g q) : InL q := fun k hk => (hp.2 k hk).1
/-- Levels whose text it is, are those that are read. -/
theorem goodL_of {W H : Nat} (hw : w = (W : Int)) (hh : h = (H : Int)) {q : Nat → Int} (hq : LevOk w h g q) {s : List UInt8} (hs : rowsT q W H = s) : GoodL w h g s W H ∧ ∀ k, k < 100 → lvA s W H k = q k := by
  subst hw; subst hh
  have hz := hq.1.1; have hz2 := hq.1.2.1
  have key : ∀ k, k < 100 → lvA s W H k = q k := fun k hk => by
    unfold lvA rdL
    by_cases hi : (k / 10 < H ∨ (k / 10 = H ∧ k % 10 < 0)) ∧ k % 10 < W
    · rw [if_pos hi, ← hs, wordA_rows (levOk_in hq) (by omega) (by omega) (by omega) hi.2]
      exact (item_read (levOk_in hq k hk)).1
    · rw [if_neg hi]
      rcases (hq.2 k hk).2 with h1 | ⟨h1, h2, _⟩
      · exact h1.symm
      · exact absurd ⟨.inl (by omega), by omega⟩ hi
  refine ⟨⟨levOk_congr (fun k hk => (key k hk).symm) hq, ?_⟩, key⟩
  rw [← hs]
  conv => rhs; rw [hs]
  rw [← hs] at key
  rw [← hs]
  exact rowsT_congr fun y hy k hk => key _ (by omega)
theorem rdL_zero (s : List UInt8) (W : Nat) : rdL s W 0 0 = fun _ => 0 := by
  funext k; unfold rdL; rw [if_neg (by omega)]
theorem rdL_step {s : List UInt8} {W y x : Nat} (hx : x < W) (h10 : W ≤ 10) : gset (rdL s W y x) (10 * y + x) (sgN (wordA s (10 * y + x))) = rdL s W y (x + 1) := by
  funext k
  unfold gset
  by_cases e : k = 10 * y + x
  · rw [if_pos e, e]; unfold rdL
    rw [if_pos ⟨by omega, by omega⟩]
  · rw [if_neg e]; unfold rdL
    by_cases e1 : k / 10 = y
    · have : k % 10 < x + 1 ↔ k % 10 < x := by omega
      simp only [this]
    · simp only [e1, false_and, or_false]
theorem rdL_row {s : List UInt8} {W y : Nat} : rdL s W y W = rdL s W (y + 1) 0 := by
  funext k
  unfold rdL
  have : ((k / 10 < y ∨ k / 10 = y ∧ k % 10 < W) ∧ k % 10 < W) ↔ ((k / 10 < y + 1 ∨ k / 10 = y + 1 ∧ k % 10 < 0) ∧ k % 10 < W) := by omega
  exact ite_congr (propext this) (fun _ => rfl) (fun _ => rfl)
/-- The program's order: cell by cell. -/
def prL (F : List (List UInt8)) (W i : Nat) (k : Nat) : Int := if k % 10 < W ∧ (k / 10) * W + k % 10 < i then numL (gS F ((k / 10) * W + k % 10)) else 0
theorem prL_zero (F : List (List UInt8)) (W : Nat) : prL F W 0 = fun _ => 0 := by
  funext k; unfold prL; rw [if_neg (by omega)]
theorem prL_at {F : List (List UInt8)} {W i : Nat} (hW : 1 ≤ W ∧ W ≤ 10) : prL F W i (10 * (i / W) + i % W) = 0 := by
  have hm := Nat.mod_lt i (show 0 < W by omega)
  have hd := Nat.div_add_mod i W
  unfold prL
  rw [if_neg]
  intro ⟨_, h2⟩
  have e1 : (10 * (i / W) + i % W) / 10 = i / W := by omega
  have e2 : (10 * (i / W) + i % W) % 10 = i % W := by omega
  rw [e1, e2, Nat.mul_comm] at h2; omega
theorem prL_step {F : List (List UInt8)} {W i : Nat} (hW : 1 ≤ W ∧ W ≤ 10) : gset (prL F W i) (10 * (i / W) + i % W) (numL (gS F i)) = prL F W (i + 1) := by
  have hm := Nat.mod_lt i (show 0 < W by omega)
  have hd := Nat.div_add_mod i W
  funext k
  unfold gset
  by_cases e : k = 10 * (i / W) + i % W
  · have e1 : k / 10 = i / W := by omega
    have e2 : k % 10 = i % W := by omega
    have e3 : (k / 10) * W + k % 10 = i := by rw [e1, e2, Nat.mul_comm]; exact hd
    rw [if_pos e]; unfold prL
    rw [e3, if_pos ⟨by omega, by omega⟩]
  · rw [if_neg e]; unfold prL
    by_cases hk : k % 10 < W
    · have : (k / 10) * W + k % 10 ≠ i := fun h2 => by
        apply e
        have h3 : i / W = k / 10 := by
          rw [← h2, Nat.mul_comm, Nat.mul_add_div (by omega), Nat.div_eq_of_lt hk]; rfl
        have h4 : i % W = k % 10 := by
          rw [← h2, Nat.mul_comm, Nat.mul_add_mod, Nat.mod_eq_of_lt hk]
        omega
      have h5 : (k / 10) * W + k % 10 < i + 1 ↔ (k / 10) * W + k % 10 < i := by omega
      simp only [h5]
    · simp only [hk, false_and]
/-- The words of a good text, one by one. -/
theorem rowT_sepd (q : Nat → Int) (y : Nat) : ∀ W, 1 ≤ W → ∃ l : List (List UInt8 × UInt8), rowT q y W ++ [10] = sepd l ∧ l.map (·.1) = (List.range W).map (fun k => itemT (q (10 * y + k))) ∧ ∀ p ∈ l, p.2 = 32 ∨ p.2 = 10
  | 0, h => by omega
  | 1, _ => ⟨[(itemT (q (10 * y + 0)), 10)], by simp [rowT, sepd, Lib.join_one, List.range_succ], rfl, by simp⟩
  | W + 2, _ => by
    obtain ⟨l, h1, h2, h3⟩ := rowT_sepd q y (W + 1) (by omega)
    have hne : l ≠ [] := fun e => by subst e; rw [List.map_nil] at h2; have := congrArg List.length h2; simp at this
    obtain ⟨l0, p, rfl⟩ : ∃ l0 p, l = l0 ++ [p] := ⟨l.dropLast, l.getLast hne, (List.dropLast_concat_getLast hne).symm⟩
    refine ⟨l0 ++ [(p.1, 32)] ++ [(itemT (q (10 * y + (W + 1))), 10)], ?_, ?_, ?_⟩
    · rw [rowT_succ, if_neg (by omega)]
      have e : sepd (l0 ++ [p]) = sepd l0 ++ p.1 ++ [p.2] := by simp [sepd]
      rw [e] at h1
      have h4 : rowT q y (W + 1) = sepd l0 ++ p.1 := (List.append_inj' h1 rfl).1
      rw [h4]; simp [sepd]
    · rw [List.range_succ, List.map_append (l₁ := List.range (W + 1)), ← h2]; simp
    · intro x hx
      simp only [List.mem_append, List.mem_singleton] at hx
      rcases hx with (hx | rfl) | rfl
      · exact h3 x (by simp [hx])
      · exact .inl rfl
      · exact .inr rfl
theorem rows_sepd (q : Nat → Int) {W : Nat} (hW : 1 ≤ W) : ∀ H, ∃ l : List (List UInt8 × UInt8), rowsT q W H = sepd l ∧ l.map (·.1) = (List.range (H * W)).map (fun j => itemT (q (10 * (j / W) + j % W))) ∧ ∀ p ∈ l, p.2 = 32 ∨ p.2 = 10
  | 0 => ⟨[], rfl, by simp, by simp⟩
  | H + 1 => by
    obtain ⟨l, h1, h2, h3⟩ := rows_sepd q hW H
    obtain ⟨l', g1, g2, g3⟩ := rowT_sepd q H W hW
    refine ⟨l ++ l', ?_, ?_, fun p hp => ?_⟩
    · rw [rowsT, h1, List.append_assoc, g1]; simp [sepd]
    · rw [List.map_append, h2, g2, show (H + 1) * W = H * W + W from Nat.succ_mul H W, List.range_add, List.map_append, List.map_map]
      congr 1
      apply List.map_congr_left
      intro k hk
      rw [List.mem_range] at hk
      have e1 : (H * W + k) / W = H := by rw [Nat.mul_comm, Nat.mul_add_div (by omega), Nat.div_eq_of_lt hk]; rfl
      have e2 : (H * W + k) % W = k := by rw [Nat.mul_comm, Nat.mul_add_mod, Nat.mod_eq_of_lt hk]
      simp only [Function.comp, e1, e2]
    · rw [List.mem_append] at hp
      exact hp.elim (h3 p) (g3 p)
theorem rows_fields {q : Nat → Int} (hq : InL q) {W H : Nat} (hW : 1 ≤ W ∧ W ≤ 10) (hH : H ≤ 10) : fieldsL (rowsT q W H) = (List.range (H * W)).map (fun j => itemT (q (10 * (j / W) + j % W))) := by
  obtain ⟨l, h1, h2, h3⟩ := rows_sepd q hW.1 H
  rw [h1, fieldsL_sepd, h2]
  intro p hp
  have hm : p.1 ∈ l.map (·.1) := List.mem_map.2 ⟨p, hp, rfl⟩
  rw [h2] at hm
  obtain ⟨j, hj, e⟩ := List.mem_map.1 hm
  rw [List.mem_range] at hj
  have hd : j / W < H := (Nat.div_lt_iff_lt_mul (by omega)).2 hj
  have hmod := Nat.mod_lt j (show 0 < W by omega)
  have hi := item_read (hq (10 * (j / W) + j % W) (by omega))
  rw [← e]
  exact ⟨hi.2.2.2.1, hi.2.2.2.2, by rcases h3 p hp with e | e <;> rw [e] <;> simp⟩
end Go.DM
