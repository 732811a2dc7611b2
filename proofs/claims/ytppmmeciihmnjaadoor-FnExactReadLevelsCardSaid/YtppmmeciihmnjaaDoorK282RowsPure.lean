/- Rounds as text: both sides, the statement. -/
import Derived.Test.YtppmmeciihmnjaaDoorK282Split
import Derived.Test.YtppmmeciihmnjaaDoorK282All
import Derived.Test.YtppmmeciihmnjaaDoorK282SplitK
set_option linter.unusedSimpArgs false
set_option linter.unusedVariables false
set_option maxHeartbeats 4000000
namespace Go.DM
open Go.IntWalk

/-- The text of a round; of all. -/
def oneT (r : Rnd) : List UInt8 := [if r.2 then 104 else 99, UInt8.ofNat (48 + r.1.toNat)]
def toldT (l : List Rnd) : List UInt8 := Lib.join (l.map oneT) [32]
theorem toldT_snoc (l : List Rnd) (r : Rnd) : toldT (l ++ [r]) = (if l = [] then [] else toldT l ++ [32]) ++ oneT r := by
  unfold toldT
  by_cases h : l = []
  · subst h; simp [Lib.join_one]
  · rw [if_neg h, List.map_append, List.map_cons, List.map_nil, join_snoc _ _ _ (by simpa using h)]
theorem tail_len : ∀ l : List Rnd, (Lib.joinTail [32] (l.map oneT)).length = l.length * 3
  | [] => rfl
  | r :: l => by
    have := tail_len l
    simp only [Lib.joinTail, List.map_cons, List.flatten_cons, List.length_append] at this ⊢
    rw [this]; simp [oneT]; omega
theorem toldT_len (l : List Rnd) : (toldT l).length ≤ l.length * 3 := by
  cases l with
  | nil => simp [toldT, Lib.join_nil]
  | cons r l =>
    unfold toldT
    rw [List.map_cons, Lib.join_cons, List.length_append, tail_len]
    simp [oneT]; omega
abbrev aro (l : List Rnd) : Arg := .d (.sl l.length 2 (encO l))
def RndOk (l : List Rnd) : Prop := (∀ r ∈ l, 0 ≤ r.1 ∧ r.1 ≤ 9) ∧ l.length ≤ 60
instance (l : List Rnd) : Decidable (RndOk l) := inferInstanceAs (Decidable (_ ∧ _))
def textT (l : List Rnd) : List UInt8 := if RndOk l then toldT l else []
end Go.DM

/- Those cells for which something holds; slices.Repeat; codes of cells that have to be open. -/
set_option linter.unusedSimpArgs false
set_option linter.unusedVariables false
set_option maxHeartbeats 4000000
namespace Go.DM
open Go.IntWalk
variable {w h : Int} {g : Nat → Int} {cs : List S}

/-- Those of all cells. -/
def those (w h : Int) (P : Cel → Prop) [DecidablePred P] : List Cel := (allC w h).filter fun c => decide (P c)
theorem those_kept (P : Cel → Prop) [DecidablePred P] : kept (fun c => ¬ P c) (allC w h) = those w h P := by
  unfold kept those
  apply List.filter_congr
  intro c _
  simp
section
variable {dsts : Nat → Option Nat} {ops : List Oper} {Q : St → Prop} {σ : St} {gd : Option (Nat × Bool)} {l1 l2 l3 l4 : List Nat}
end
/-- The closures of a lawn. -/
theorem holds_grass (l : IsLawn w h g cs) (hs : w ≤ 10 ∧ h ≤ 10) : HoldsC G (.clo 32 [.agg cs] []) (fun c => Is w h g 0 c.1 c.2) (fun _ => True) :=
  ⟨32, Code.f32, _, _, rfl, rfl, rfl, fun c _ => grass_gives l c.1 c.2 (.inl hs)⟩
theorem those_grass : those w h (fun c => Is w h g 0 c.1 c.2) = ofKind w h g 0 := by
  unfold those ofKind
  apply List.filter_congr
  intro c hc
  have := allC_mem hc
  rw [decide_eq_decide]
  exact ⟨fun h => h.2, fun h => ⟨this, h⟩⟩

/-! slices.Repeat. -/

theorem elems_sl {objs : Nat → Option Ob} {v : V} {o off n es : Nat} {b : Bool} {cs : List S} (hv : v = .a (.sl o off n es)) (ho : objs o = some (.flat b cs)) (hl : off + n * es ≤ cs.length) : elems objs es v = some (n, (cs.drop off).take (n * es)) := by
  subst hv; simp only [elems, ho]; rw [if_pos ⟨trivial, hl⟩]
theorem rep_list {n t k : Nat} (ht : t + k ≤ n) (hk : k ≤ t) :
    (rowI .i64 n (fun i => if i < t then -1 else 0)).take t ++ ((rowI .i64 n (fun i => if i < t then -1 else 0)).take t).take k ++ (rowI .i64 n (fun i => if i < t then -1 else 0)).drop (t + k) = rowI .i64 n (fun i => if i < t + k then -1 else 0) := by
  have hl := rowI_len (k := .i64) (n := n) (f := fun i => if i < t then -1 else 0)
  have h1 : ((rowI .i64 n (fun i => if i < t then -1 else 0)).take t).length = t := by rw [List.length_take]; omega
  have h2 : (((rowI .i64 n (fun i => if i < t then -1 else 0)).take t).take k).length = k := by rw [List.length_take]; omega
  refine List.ext_getElem? fun j => ?_
  by_cases hj : j < n
  · rw [rowI_get hj]
    by_cases hj1 : j < t
    · rw [List.append_assoc, List.getElem?_append_left (by omega), List.getElem?_take_of_lt hj1, rowI_get hj, if_pos hj1, if_pos (by omega)]
    · by_cases hj2 : j < t + k
      · rw [List.getElem?_append_left (by rw [List.length_append]; omega), List.getElem?_append_right (by omega), h1, List.getElem?_take_of_lt (by omega), List.getElem?_take_of_lt (by omega), rowI_get (by omega), if_pos (by omega), if_pos (by omega)]
      · rw [List.getElem?_append_right (by rw [List.length_append]; omega), List.length_append, h1, h2, List.getElem?_drop, show t + k + (j - (t + k)) = j by omega, rowI_get hj, if_neg (by omega), if_neg (by omega)]
  · rw [List.getElem?_eq_none (by rw [List.length_append, List.length_append, h1, h2, List.length_drop]; omega), List.getElem?_eq_none (by rw [rowI_len]; omega)]
theorem rep_first {n : Nat} (hn : 1 ≤ n) : (rowI .i64 n fun _ => 0).take 0 ++ [S.int .i64 (-1)].take (1 * 1) ++ (rowI .i64 n fun _ => 0).drop (0 + 1 * 1) = rowI .i64 n (fun i => if i < 1 then -1 else 0) := by
  obtain ⟨m, rfl⟩ : ∃ m, n = m + 1 := ⟨n - 1, by omega⟩
  simp [rowI, List.range_succ_eq_map]
end Go.DM

/- Rows of letters and the pieces of a text: plain facts. -/
set_option linter.unusedSimpArgs false
set_option linter.unusedVariables false
namespace Go.DM
/-- The letters of the first cells, line by line. -/
def textC (w : Int) (L : Cel → UInt8) (A : List Cel) : List UInt8 := A.flatMap fun c => L c :: if c.1 = w - 1 then [10] else []
/-- One row. -/
def rowL (L : Cel → UInt8) (W y : Nat) : List UInt8 := (List.range W).map fun (x : Nat) => L ((x : Int), (y : Int))
theorem rowL_len (L : Cel → UInt8) (W y : Nat) : (rowL L W y).length = W := by simp [rowL]
theorem rowL_at {L : Cel → UInt8} {W y x : Nat} (h : x < W) : (rowL L W y).getD x 0 = L ((x : Int), (y : Int)) := by
  simp [rowL, List.getD_eq_getElem?_getD, h]
theorem textC_app (w : Int) (L : Cel → UInt8) (A B : List Cel) : textC w L (A ++ B) = textC w L A ++ textC w L B := by simp [textC]
theorem textC_part (L : Cel → UInt8) (W y : Nat) : ∀ x, x ≤ W → textC (W : Int) L (cellsTo W (y * W + x)) = textC (W : Int) L (cellsTo W (y * W)) ++ (rowL L x y) ++ (if x = W ∧ 0 < W then [10] else [])
  | 0, _ => by
    rw [if_neg (by omega)]; simp [rowL]
  | x + 1, h => by
    rw [cellsTo_succ (by omega), textC_app, textC_part L W y x (by omega), if_neg (by omega)]
    have e : textC (W : Int) L [((x : Int), (y : Int))] = L ((x : Int), (y : Int)) :: if (x : Int) = W - 1 then [10] else [] := by simp [textC]
    rw [e]
    have er : rowL L (x + 1) y = rowL L x y ++ [L ((x : Int), (y : Int))] := by simp [rowL, List.range_succ]
    rw [er]
    by_cases hx : x + 1 = W
    · rw [if_pos (by omega), if_pos (by omega)]; simp
    · rw [if_neg (by omega), if_neg (by omega)]; simp
theorem textC_rows (L : Cel → UInt8) (W : Nat) (hW : 0 < W) : ∀ H, textC (W : Int) L (cellsTo W (H * W)) = (List.range H).flatMap fun y => rowL L W y ++ [10]
  | 0 => by simp [cellsTo, textC]
  | H + 1 => by
    have := textC_part L W H W (Nat.le_refl _)
    rw [if_pos ⟨rfl, hW⟩] at this
    rw [Nat.succ_mul, this, textC_rows L W hW H, List.range_succ, List.flatMap_append]
    simp
theorem textC_all (L : Cel → UInt8) (W H : Nat) (hW : 0 < W) : textC (W : Int) L (allC (W : Int) (H : Int)) = (List.range H).flatMap fun y => rowL L W y ++ [10] := by
  rw [allC, Int.toNat_natCast, Int.toNat_natCast, Nat.mul_comm, textC_rows L W hW H]
theorem pieces_line {c : UInt8} : ∀ {l : List UInt8} (r : List UInt8), c ∉ l → pieces c (l ++ c :: r) = l :: pieces c r
  | [], r, _ => pieces_hit c r
  | b :: l, r, h => by
    have hb : b ≠ c := fun e => h (by rw [e]; exact List.mem_cons_self ..)
    have ih := pieces_line (l := l) r (fun hh => h (List.mem_cons_of_mem _ hh))
    obtain ⟨p, ps, h1, h2⟩ := pieces_miss hb (l ++ c :: r)
    rw [List.cons_append, h2]
    rw [ih] at h1
    cases h1; rfl
theorem pieces_lines {c : UInt8} : ∀ (ls : List (List UInt8)) (r : List UInt8), (∀ l ∈ ls, c ∉ l) → pieces c (ls.flatMap (· ++ [c]) ++ r) = ls ++ pieces c r
  | [], r, _ => rfl
  | l :: ls, r, h => by
    rw [List.flatMap_cons, List.append_assoc, List.append_assoc, List.singleton_append, pieces_line _ (h l (List.mem_cons_self ..)), pieces_lines ls r fun l' hl' => h l' (List.mem_cons_of_mem _ hl')]
    rfl
/-- Pieces put together again. -/
def unp (c : UInt8) : List (List UInt8) → List UInt8
  | [] => []
  | [p] => p
  | p :: q :: r => p ++ c :: unp c (q :: r)
theorem unp_cons {c b : UInt8} {p : List UInt8} {ps : List (List UInt8)} : unp c ((b :: p) :: ps) = b :: unp c (p :: ps) := by
  cases ps with
  | nil => rfl
  | cons q r => rfl
theorem unp_pieces (c : UInt8) : ∀ s, unp c (pieces c s) = s
  | [] => rfl
  | b :: r => by
    by_cases h : b = c
    · subst h
      rw [pieces_hit]
      have := unp_pieces b r
      cases hp : pieces b r with
      | nil => exact absurd hp (pieces_ne b r)
      | cons p ps => rw [hp] at this; simp only [unp, List.nil_append, this]
    · obtain ⟨p, ps, h1, h2⟩ := pieces_miss h r
      have := unp_pieces c r
      rw [h1] at this
      rw [h2, unp_cons, this]
theorem unp_snoc (c : UInt8) (x : List UInt8) : ∀ A : List (List UInt8), unp c (A ++ [x]) = A.flatMap (· ++ [c]) ++ x
  | [] => rfl
  | [a] => by simp [unp]
  | a :: b :: r => by
    have := unp_snoc c x (b :: r)
    simp only [List.cons_append, unp, List.flatMap_cons] at this ⊢
    rw [this]; simp
theorem unp_inj {c : UInt8} {s t : List UInt8} (h : pieces c s = pieces c t) : s = t := by rw [← unp_pieces c s, h, unp_pieces]
theorem fm_congr {α β : Type} {f g : α → List β} : ∀ {l : List α}, (∀ x ∈ l, f x = g x) → l.flatMap f = l.flatMap g
  | [], _ => rfl
  | a :: l, h => by rw [List.flatMap_cons, List.flatMap_cons, h a (List.mem_cons_self ..), fm_congr fun x hx => h x (List.mem_cons_of_mem _ hx)]
theorem row_ext {l : List UInt8} {L : Cel → UInt8} {W y : Nat} (hl : l.length = W) (h : ∀ x : Nat, x < W → L ((x : Int), (y : Int)) = l.getD x 0) : rowL L W y = l := by
  apply List.ext_getElem?
  intro i
  by_cases hi : i < W
  · have := h i hi
    rw [List.getD_eq_getElem?_getD, List.getElem?_eq_getElem (by omega)] at this
    simp [rowL, hi, this, List.getElem?_eq_getElem (show i < l.length by omega)]
  · rw [List.getElem?_eq_none (by rw [rowL_len]; omega), List.getElem?_eq_none (by omega)]
end Go.DM
