/- All cells of a lawn, those for which something holds; open cells; codes. -/
import Derived.Test.YtppmmeciihmnjaaDoorK279Rule
import Derived.Test.YtppmmeciihmnjaaDoorK279More
import Derived.Test.YtppmmeciihmnjaaDoorK279Beside
import Derived.Test.YtppmmeciihmnjaaDoorK279SplitK
set_option linter.unusedSimpArgs false
set_option linter.unusedVariables false
set_option maxHeartbeats 4000000
namespace Go.DM
open Go.IntWalk
variable {w h : Int} {g : Nat → Int} {cs : List S}

def cellsTo (W n : Nat) : List Cel := (List.range n).map fun i => (((i % W : Nat) : Int), ((i / W : Nat) : Int))
/-- All cells, in order. -/
def allC (w h : Int) : List Cel := cellsTo w.toNat (w.toNat * h.toNat)
theorem cellsTo_len (W n : Nat) : (cellsTo W n).length = n := by simp [cellsTo]
theorem cellsTo_succ {W y x : Nat} (hx : x < W) : cellsTo W (y * W + (x + 1)) = cellsTo W (y * W + x) ++ [((x : Int), (y : Int))] := by
  unfold cellsTo
  rw [← Nat.add_assoc, List.range_succ, List.map_append]
  congr 1
  have h1 : (y * W + x) % W = x := by rw [Nat.add_comm, Nat.add_mul_mod_self_right, Nat.mod_eq_of_lt hx]
  have h2 : (y * W + x) / W = y := by rw [Nat.add_comm, Nat.add_mul_div_right _ _ (by omega), Nat.div_eq_of_lt hx, Nat.zero_add]
  simp only [List.map_cons, List.map_nil, h1, h2]
theorem all_gives (l : IsLawn w h g cs) (hs : 0 ≤ w ∧ w ≤ 10 ∧ 0 ≤ h ∧ h ≤ 10) : Gives G 33 [aa cs] ⟨[.own (allC w h).length 2 (encC (allC w h))], []⟩ := by
  obtain ⟨W0, rfl⟩ : ∃ W0 : Nat, w = W0 := ⟨w.toNat, by omega⟩
  obtain ⟨H0, rfl⟩ : ∃ H0 : Nat, h = H0 := ⟨h.toNat, by omega⟩
  refine Gives.by rfl rfl (W.seq ?_)
  repeat' first | ((with_reducible apply WR.mv); exact rfl; exact rfl) | ((with_reducible apply WR.nil)) | (with_reducible refine andThen_n ?_) | (with_reducible refine W.seq ?_) | (with_reducible refine W.region ?_) | (with_reducible refine W.block ?_) | ((with_reducible apply WR.ld); exact rfl; exact rfl; exact rfl; (first | exact lawn_h (by assumption))) | ((with_reducible apply WR.bs0); exact rfl; (first | exact rfl)) | ((with_reducible apply WR.fa); exact rfl; exact rfl) | ((with_reducible apply WR.bx); exact rfl; exact rfl; exact (by first | exact IsLawn.len (by assumption) | exact rfl); (first | exact rfl))
  have hbb : ∀ y x : Nat, y ≤ H0 → x ≤ W0 → (cellsTo W0 (y * W0 + x)).length ≤ 200 := fun y x h1 h2 => by
    rw [cellsTo_len]
    have := Nat.mul_le_mul h1 (Nat.le_refl W0)
    have h3 : H0 * W0 ≤ 10 * 10 := Nat.mul_le_mul (by omega) (by omega)
    omega
  (refine W.loopM [1, 8] [1] [21, 22] (fun zz : (Nat) × (List Cel) => match zz with | (y, out) => (H0 - y : Nat)) (fun zz : (Nat) × (List Cel) => match zz with | (y, out) => (y ≤ H0 ∧ out = cellsTo W0 (y * W0) : Prop)) (fun zz : (Nat) × (List Cel) => match zz with | (y, out) => [(3, .a (.sl 6 0 out.length 2)), (9, .a (.d (.s (.int .i8 (y : Nat)))))]) (fun zz : (Nat) × (List Cel) => match zz with | (y, out) => [(6, .flat false (encC out))]) (0, []) (⟨by omega, by simp [cellsTo]⟩) ⟨rfl, rfl, trivial⟩ ⟨rfl, trivial⟩ ⟨(by (repeat' first | exact rfl | assumption | (with_reducible apply noPar_set) | ((with_reducible apply noPar_puto); exact rfl) | (with_reducible apply noPar_put) | (with_reducible apply noPar_putv) | (with_reducible apply noPar_kill) | ((with_reducible apply noPar_mix); exact rfl) | ((with_reducible apply noPar_mixT); exact rfl)); done), (by (repeat' first | exact rfl | assumption | (with_reducible apply noPar_set) | ((with_reducible apply noPar_puto); exact rfl) | (with_reducible apply noPar_put) | (with_reducible apply noPar_putv) | (with_reducible apply noPar_kill) | ((with_reducible apply noPar_mix); exact rfl) | ((with_reducible apply noPar_mixT); exact rfl)); done), trivial⟩ ?_)
  rintro ⟨y, out⟩ σ hP hN; dsimp only [setL, putL] at hP ⊢; obtain ⟨n21, hN⟩ := hN; obtain ⟨n22, hN⟩ := hN
  obtain ⟨hy, ho⟩ := hP
  repeat' first | ((with_reducible apply WR.mv); exact rfl; exact rfl) | ((with_reducible apply WR.nil)) | (with_reducible refine andThen_n ?_) | (with_reducible refine andThen_x ?_) | (with_reducible refine inB_x ?_) | (with_reducible refine W.seq ?_) | (with_reducible refine W.region ?_) | (with_reducible refine W.skip ?_) | (with_reducible refine W.ret ?_) | (with_reducible refine W.exit ?_) | (with_reducible refine W.block ?_) | ((with_reducible apply W.condT); exact rfl) | ((with_reducible apply W.condF); exact rfl) | ((with_reducible apply Done.f); (intro hh hh2; exact (nomatch hh2)); (focus ((repeat' first | exact all_nil | apply all_cons | exact res_tmp rfl); done)); (focus ((repeat' first | exact all_nil | apply all_cons | exact retOf_o rfl rfl (by first | exact encC_length _)); done)); exact rfl; (focus ((repeat' first | exact outs_nil | apply outs_d); done))) | (intro hb; try (exfalso; omega)) | ((with_reducible apply WR.lss); exact rfl; exact rfl; exact rfl) | ((with_reducible apply WR.ld); exact rfl; exact rfl; exact rfl; (first | exact lawn_w (by assumption))) | ((with_reducible apply WR.fa); exact rfl; exact rfl)
  · (refine W.loopM [1, 4, 8, 9, 13] [1] [21, 22] (fun zz : (Nat) × (List Cel) => match zz with | (x, o) => (W0 - x : Nat)) (fun zz : (Nat) × (List Cel) => match zz with | (x, o) => (x ≤ W0 ∧ o = cellsTo W0 (y * W0 + x) : Prop)) (fun zz : (Nat) × (List Cel) => match zz with | (x, o) => [(3, .a (.sl 6 0 o.length 2)), (14, .a (.d (.s (.int .i8 (x : Nat)))))]) (fun zz : (Nat) × (List Cel) => match zz with | (x, o) => [(6, .flat false (encC o))]) (0, out) (⟨by omega, by rw [ho]; rfl⟩) ⟨rfl, rfl, trivial⟩ ⟨rfl, trivial⟩ ⟨(by (repeat' first | exact rfl | assumption | (with_reducible apply noPar_set) | ((with_reducible apply noPar_puto); exact rfl) | (with_reducible apply noPar_put) | (with_reducible apply noPar_putv) | (with_reducible apply noPar_kill) | ((with_reducible apply noPar_mix); exact rfl) | ((with_reducible apply noPar_mixT); exact rfl)); done), (by (repeat' first | exact rfl | assumption | (with_reducible apply noPar_set) | ((with_reducible apply noPar_puto); exact rfl) | (with_reducible apply noPar_put) | (with_reducible apply noPar_putv) | (with_reducible apply noPar_kill) | ((with_reducible apply noPar_mix); exact rfl) | ((with_reducible apply noPar_mixT); exact rfl)); done), trivial⟩ ?_)
    rintro ⟨x, o⟩ σ hP hN; dsimp only [setL, putL] at hP ⊢; obtain ⟨n21, hN⟩ := hN; obtain ⟨n22, hN⟩ := hN
    obtain ⟨hx, ho2⟩ := hP
    have hl := hbb y x (by omega) hx
    rw [← ho2] at hl
    repeat' first | ((with_reducible apply WR.mv); exact rfl; exact rfl) | ((with_reducible apply WR.nil)) | (with_reducible refine andThen_n ?_) | (with_reducible refine andThen_x ?_) | (with_reducible refine inB_n ?_) | (with_reducible refine inB_x ?_) | (with_reducible refine W.seq ?_) | (with_reducible refine W.region ?_) | (with_reducible refine W.skip ?_) | (with_reducible refine W.exit ?_) | (with_reducible refine W.block ?_) | ((with_reducible apply W.condT); exact rfl) | ((with_reducible apply W.condF); exact rfl) | (intro hb; try (exfalso; omega)) | ((with_reducible apply WR.lss); exact rfl; exact rfl; exact rfl) | ((with_reducible apply WR.ad); exact rfl; exact rfl; exact rfl; (first | assumption | exact i8_in _ (by omega))) | ((with_reducible apply WR.bs1); exact rfl; exact rfl; (first | assumption)) | ((with_reducible apply WR.bC); exact rfl; exact rfl; exact rfl) | ((with_reducible apply WR.apC); exact rfl; exact rfl; exact rfl; exact rfl; omega)
    · (refine W.nxt (x + 1, o ++ [((x : Int), (y : Int))]) (by first | omega | (dsimp only; omega)) ?_ ⟨rfl, rfl, trivial⟩ ⟨rfl, trivial⟩ ⟨rfl, rfl, rfl, rfl, rfl, trivial⟩ ⟨rfl, trivial⟩ ⟨(by (repeat' first | exact rfl | assumption | (with_reducible apply noPar_set) | ((with_reducible apply noPar_puto); exact rfl) | (with_reducible apply noPar_put) | (with_reducible apply noPar_putv) | (with_reducible apply noPar_kill) | ((with_reducible apply noPar_mix); exact rfl) | ((with_reducible apply noPar_mixT); exact rfl)); done), (by (repeat' first | exact rfl | assumption | (with_reducible apply noPar_set) | ((with_reducible apply noPar_puto); exact rfl) | (with_reducible apply noPar_put) | (with_reducible apply noPar_putv) | (with_reducible apply noPar_kill) | ((with_reducible apply noPar_mix); exact rfl) | ((with_reducible apply noPar_mixT); exact rfl)); done), trivial⟩); (try dsimp only)
      exact ⟨by omega, by rw [ho2, cellsTo_succ (by omega)]⟩
    · (refine W.nxt (y + 1, o) (by first | omega | (dsimp only; omega)) ?_ ⟨rfl, rfl, trivial⟩ ⟨rfl, trivial⟩ ⟨rfl, rfl, trivial⟩ ⟨rfl, trivial⟩ ⟨(by (repeat' first | exact rfl | assumption | (with_reducible apply noPar_set) | ((with_reducible apply noPar_puto); exact rfl) | (with_reducible apply noPar_put) | (with_reducible apply noPar_putv) | (with_reducible apply noPar_kill) | ((with_reducible apply noPar_mix); exact rfl) | ((with_reducible apply noPar_mixT); exact rfl)); done), (by (repeat' first | exact rfl | assumption | (with_reducible apply noPar_set) | ((with_reducible apply noPar_puto); exact rfl) | (with_reducible apply noPar_put) | (with_reducible apply noPar_putv) | (with_reducible apply noPar_kill) | ((with_reducible apply noPar_mix); exact rfl) | ((with_reducible apply noPar_mixT); exact rfl)); done), trivial⟩); (try dsimp only)
      exact ⟨by omega, by rw [ho2, show x = W0 by omega, Nat.succ_mul]⟩
  · rw [ho, show y = H0 by omega]
    unfold allC
    rw [Int.toNat_natCast, Int.toNat_natCast, Nat.mul_comm]; rfl
theorem allC_len (hs : w ≤ 10 ∧ h ≤ 10) : (allC w h).length ≤ 100 := by
  rw [allC, cellsTo_len]
  have h3 : w.toNat * h.toNat ≤ 10 * 10 := Nat.mul_le_mul (by omega) (by omega)
  omega
theorem allC_mem {c : Cel} (hc : c ∈ allC w h) : Has w h c.1 c.2 := by
  unfold allC cellsTo at hc
  rw [List.mem_map] at hc
  obtain ⟨i, hi, rfl⟩ := hc
  rw [List.mem_range] at hi
  have hW : 0 < w.toNat := Nat.pos_of_ne_zero fun e => by rw [e] at hi; simp at hi
  have h1 := Nat.mod_lt i hW
  have h2 : i / w.toNat < h.toNat := Nat.div_lt_of_lt_mul hi
  generalize i / w.toNat = a at h1 h2 ⊢
  generalize i % w.toNat = b at h1 h2 ⊢
  simp only [Has]
  omega
/-- The number of a cell. -/
abbrev ix (c : Cel) : Nat := 10 * c.2.toNat + c.1.toNat
/-- All cells of a kind. -/
def ofKind (w h : Int) (g : Nat → Int) (k : Int) : List Cel := (allC w h).filter fun c => decide (g (ix c) = k)
/-- There is an open cell. -/
def Opn (w h : Int) (g : Nat → Int) (x y : Int) : Prop := Has w h x y ∧ (g (10 * y.toNat + x.toNat) = 0 ∨ g (10 * y.toNat + x.toNat) = 3)
instance (w h : Int) (g : Nat → Int) (x y : Int) : Decidable (Opn w h g x y) := inferInstanceAs (Decidable (_ ∧ _))
theorem bc_merge {ok fine a : Prop} {d1 : Decidable ok} {d2 : Decidable fine} {d3 : Decidable a} (h : ¬ belowCode ok fine True = 0) : belowCode ok fine True = belowCode ok fine a := by
  by_cases h1 : ok
  · by_cases h2 : fine
    · exact absurd (belowCode_zero.2 ⟨h1, h2, trivial⟩) h
    · simp only [belowCode, if_pos h1, if_neg h2]
  · simp only [belowCode, if_neg h1]
end Go.DM

/- Those cells for which something holds; slices.Repeat; codes of cells that have to be open. -/
set_option linter.unusedSimpArgs false
set_option linter.unusedVariables false
set_option maxHeartbeats 4000000
namespace Go.DM
open Go.IntWalk
variable {w h : Int} {g : Nat → Int} {cs : List S}

/-- Those of all cells. -/
def those (w h : Int) (P : Cel → Prop) [DecidablePred P] : List Cel := (allC w h).filter fun c => decide (P c)
theorem those_kept (P : Cel → Prop) [DecidablePred P] : kept (fun c => ¬ P c) (allC w h) = those w h P := by
  unfold kept those
  apply List.filter_congr
  intro c _
  simp
section
variable {dsts : Nat → Option Nat} {ops : List Oper} {Q : St → Prop} {σ : St} {gd : Option (Nat × Bool)} {l1 l2 l3 l4 : List Nat}
end
theorem those_grass : those w h (fun c => Is w h g 0 c.1 c.2) = ofKind w h g 0 := by
  unfold those ofKind
  apply List.filter_congr
  intro c hc
  have := allC_mem hc
  rw [decide_eq_decide]
  exact ⟨fun h => h.2, fun h => ⟨this, h⟩⟩

/-! slices.Repeat. -/

theorem elems_sl {objs : Nat → Option Ob} {v : V} {o off n es : Nat} {b : Bool} {cs : List S} (hv : v = .a (.sl o off n es)) (ho : objs o = some (.flat b cs)) (hl : off + n * es ≤ cs.length) : elems objs es v = some (n, (cs.drop off).take (n * es)) := by
  subst hv; simp only [elems, ho]; rw [if_pos ⟨trivial, hl⟩]
theorem rep_list {n t k : Nat} (ht : t + k ≤ n) (hk : k ≤ t) :
    (rowI .i64 n (fun i => if i < t then -1 else 0)).take t ++ ((rowI .i64 n (fun i => if i < t then -1 else 0)).take t).take k ++ (rowI .i64 n (fun i => if i < t then -1 else 0)).drop (t + k) = rowI .i64 n (fun i => if i < t + k then -1 else 0) := by
  have hl := rowI_len (k := .i64) (n := n) (f := fun i => if i < t then -1 else 0)
  have h1 : ((rowI .i64 n (fun i => if i < t then -1 else 0)).take t).length = t := by rw [List.length_take]; omega
  have h2 : (((rowI .i64 n (fun i => if i < t then -1 else 0)).take t).take k).length = k := by rw [List.length_take]; omega
  refine List.ext_getElem? fun j => ?_
  by_cases hj : j < n
  · rw [rowI_get hj]
    by_cases hj1 : j < t
    · rw [List.append_assoc, List.getElem?_append_left (by omega), List.getElem?_take_of_lt hj1, rowI_get hj, if_pos hj1, if_pos (by omega)]
    · by_cases hj2 : j < t + k
      · rw [List.getElem?_append_left (by rw [List.length_append]; omega), List.getElem?_append_right (by omega), h1, List.getElem?_take_of_lt (by omega), List.getElem?_take_of_lt (by omega), rowI_get (by omega), if_pos (by omega), if_pos (by omega)]
      · rw [List.getElem?_append_right (by rw [List.length_append]; omega), List.length_append, h1, h2, List.getElem?_drop, show t + k + (j - (t + k)) = j by omega, rowI_get hj, if_neg (by omega), if_neg (by omega)]
  · rw [List.getElem?_eq_none (by rw [List.length_append, List.length_append, h1, h2, List.length_drop]; omega), List.getElem?_eq_none (by rw [rowI_len]; omega)]
theorem rep_first {n : Nat} (hn : 1 ≤ n) : (rowI .i64 n fun _ => 0).take 0 ++ [S.int .i64 (-1)].take (1 * 1) ++ (rowI .i64 n fun _ => 0).drop (0 + 1 * 1) = rowI .i64 n (fun i => if i < 1 then -1 else 0) := by
  obtain ⟨m, rfl⟩ : ∃ m, n = m + 1 := ⟨n - 1, by omega⟩
  simp [rowI, List.range_succ_eq_map]
end Go.DM

/- Rows of letters and the pieces of a text: plain facts. -/
set_option linter.unusedSimpArgs false
set_option linter.unusedVariables false
namespace Go.DM
/-- The letters of the first cells, line by line. -/
def textC (w : Int) (L : Cel → UInt8) (A : List Cel) : List UInt8 := A.flatMap fun c => L c :: if c.1 = w - 1 then [10] else []
/-- One row. -/
def rowL (L : Cel → UInt8) (W y : Nat) : List UInt8 := (List.range W).map fun (x : Nat) => L ((x : Int), (y : Int))
theorem rowL_len (L : Cel → UInt8) (W y : Nat) : (rowL L W y).length = W := by simp [rowL]
theorem rowL_at {L : Cel → UInt8} {W y x : Nat} (h : x < W) : (rowL L W y).getD x 0 = L ((x : Int), (y : Int)) := by
  simp [rowL, List.getD_eq_getElem?_getD, h]
theorem textC_app (w : Int) (L : Cel → UInt8) (A B : List Cel) : textC w L (A ++ B) = textC w L A ++ textC w L B := by simp [textC]
theorem textC_part (L : Cel → UInt8) (W y : Nat) : ∀ x, x ≤ W → textC (W : Int) L (cellsTo W (y * W + x)) = textC (W : Int) L (cellsTo W (y * W)) ++ (rowL L x y) ++ (if x = W ∧ 0 < W then [10] else [])
  | 0, _ => by
    rw [if_neg (by omega)]; simp [rowL]
  | x + 1, h => by
    rw [cellsTo_succ (by omega), textC_app, textC_part L W y x (by omega), if_neg (by omega)]
    have e : textC (W : Int) L [((x : Int), (y : Int))] = L ((x : Int), (y : Int)) :: if (x : Int) = W - 1 then [10] else [] := by simp [textC]
    rw [e]
    have er : rowL L (x + 1) y = rowL L x y ++ [L ((x : Int), (y : Int))] := by simp [rowL, List.range_succ]
    rw [er]
    by_cases hx : x + 1 = W
    · rw [if_pos (by omega), if_pos (by omega)]; simp
    · rw [if_neg (by omega), if_neg (by omega)]; simp
theorem textC_rows (L : Cel → UInt8) (W : Nat) (hW : 0 < W) : ∀ H, textC (W : Int) L (cellsTo W (H * W)) = (List.range H).flatMap fun y => rowL L W y ++ [10]
  | 0 => by simp [cellsTo, textC]
  | H + 1 => by
    have := textC_part L W H W (Nat.le_refl _)
    rw [if_pos ⟨rfl, hW⟩] at this
    rw [Nat.succ_mul, this, textC_rows L W hW H, List.range_succ, List.flatMap_append]
    simp
theorem textC_all (L : Cel → UInt8) (W H : Nat) (hW : 0 < W) : textC (W : Int) L (allC (W : Int) (H : Int)) = (List.range H).flatMap fun y => rowL L W y ++ [10] := by
  rw [allC, Int.toNat_natCast, Int.toNat_natCast, Nat.mul_comm, textC_rows L W hW H]
theorem pieces_line {c : UInt8} : ∀ {l : List UInt8} (r : List UInt8), c ∉ l → pieces c (l ++ c :: r) = l :: pieces c r
  | [], r, _ => pieces_hit c r
  | b :: l, r, h => by
    have hb : b ≠ c := fun e => h (by rw [e]; exact List.mem_cons_self ..)
    have ih := pieces_line (l := l) r (fun hh => h (List.mem_cons_of_mem _ hh))
    obtain ⟨p, ps, h1, h2⟩ := pieces_miss hb (l ++ c :: r)
    rw [List.cons_append, h2]
    rw [ih] at h1
    cases h1; rfl
theorem pieces_lines {c : UInt8} : ∀ (ls : List (List UInt8)) (r : List UInt8), (∀ l ∈ ls, c ∉ l) → pieces c (ls.flatMap (· ++ [c]) ++ r) = ls ++ pieces c r
  | [], r, _ => rfl
  | l :: ls, r, h => by
    rw [List.flatMap_cons, List.append_assoc, List.append_assoc, List.singleton_append, pieces_line _ (h l (List.mem_cons_self ..)), pieces_lines ls r fun l' hl' => h l' (List.mem_cons_of_mem _ hl')]
    rfl
/-- Pieces put together again. -/
def unp (c : UInt8) : List (List UInt8) → List UInt8
  | [] => []
  | [p] => p
  | p :: q :: r => p ++ c :: unp c (q :: r)
theorem unp_cons {c b : UInt8} {p : List UInt8} {ps : List (List UInt8)} : unp c ((b :: p) :: ps) = b :: unp c (p :: ps) := by
  cases ps with
  | nil => rfl
  | cons q r => rfl
theorem unp_pieces (c : UInt8) : ∀ s, unp c (pieces c s) = s
  | [] => rfl
  | b :: r => by
    by_cases h : b = c
    · subst h
      rw [pieces_hit]
      have := unp_pieces b r
      cases hp : pieces b r with
      | nil => exact absurd hp (pieces_ne b r)
      | cons p ps => rw [hp] at this; simp only [unp, List.nil_append, this]
    · obtain ⟨p, ps, h1, h2⟩ := pieces_miss h r
      have := unp_pieces c r
      rw [h1] at this
      rw [h2, unp_cons, this]
theorem unp_snoc (c : UInt8) (x : List UInt8) : ∀ A : List (List UInt8), unp c (A ++ [x]) = A.flatMap (· ++ [c]) ++ x
  | [] => rfl
  | [a] => by simp [unp]
  | a :: b :: r => by
    have := unp_snoc c x (b :: r)
    simp only [List.cons_append, unp, List.flatMap_cons] at this ⊢
    rw [this]; simp
theorem unp_inj {c : UInt8} {s t : List UInt8} (h : pieces c s = pieces c t) : s = t := by rw [← unp_pieces c s, h, unp_pieces]
theorem fm_congr {α β : Type} {f g : α → List β} : ∀ {l : List α}, (∀ x ∈ l, f x = g x) → l.flatMap f = l.flatMap g
  | [], _ => rfl
  | a :: l, h => by rw [List.flatMap_cons, List.flatMap_cons, h a (List.mem_cons_self ..), fm_congr fun x hx => h x (List.mem_cons_of_mem _ hx)]
theorem row_ext {l : List UInt8} {L : Cel → UInt8} {W y : Nat} (hl : l.length = W) (h : ∀ x : Nat, x < W → L ((x : Int), (y : Int)) = l.getD x 0) : rowL L W y = l := by
  apply List.ext_getElem?
  intro i
  by_cases hi : i < W
  · have := h i hi
    rw [List.getD_eq_getElem?_getD, List.getElem?_eq_getElem (by omega)] at this
    simp [rowL, hi, this, List.getElem?_eq_getElem (show i < l.length by omega)]
  · rw [List.getElem?_eq_none (by rw [rowL_len]; omega), List.getElem?_eq_none (by omega)]
end Go.DM
