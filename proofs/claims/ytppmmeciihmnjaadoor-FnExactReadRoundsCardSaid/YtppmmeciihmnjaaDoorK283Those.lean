/- slices.Index over cells. -/
import Derived.Test.YtppmmeciihmnjaaDoorK283Night
import Derived.Test.YtppmmeciihmnjaaDoorK283Loop
import Derived.Test.YtppmmeciihmnjaaDoorK283Rule
import Derived.Test.YtppmmeciihmnjaaDoorK283More
set_option linter.unusedSimpArgs false
set_option linter.unusedVariables false
namespace Go.DM
open Go.IntWalk

end Go.DM

/- Some nights of a mole: the program's side. -/
set_option linter.unusedSimpArgs false
set_option linter.unusedVariables false
namespace Go.DM
open Go.IntWalk
variable {w h : Int} {g : Nat → Int} {cs : List S} {q : Nat → Int} {qs : List S}

/-- Levels, and where the mole is and was. -/
structure Mole where
  q : Nat → Int
  qs : List S
  a : Cel
  b : Cel
def nextQ (q : Nat → Int) (t : Cel) : Nat → Int := if lv q t < 9 then levSet q (10 * t.2.toNat + t.1.toNat) (lv q t + 1) else q
def Mole.next (w h : Int) (g : Nat → Int) (m : Mole) : Mole := ⟨nextQ m.q (goes w h g m.q m.a m.b), nightLev m.q m.qs (goes w h g m.q m.a m.b), goes w h g m.q m.a m.b, m.a⟩
def Mole.after (w h : Int) (g : Nat → Int) (m : Mole) : Nat → Mole
  | 0 => m
  | n + 1 => (m.after w h g n).next w h g
def Mole.path (w h : Int) (g : Nat → Int) (m : Mole) : Nat → List Cel
  | 0 => [m.a]
  | n + 1 => m.path w h g n ++ [(m.after w h g (n + 1)).a]
theorem Mole.path_length (m : Mole) : ∀ n, (m.path w h g n).length = n + 1
  | 0 => rfl
  | n + 1 => by simp [Mole.path, Mole.path_length m n]
structure Mole.Ok (m : Mole) : Prop where
  v : IsLev m.q m.qs
  a : 0 ≤ m.a.1 ∧ m.a.1 < 10 ∧ 0 ≤ m.a.2 ∧ m.a.2 < 10
theorem lowest_mem (q : Nat → Int) (a : Cel) : ∀ l : List Cel, lowest q a l = a ∨ lowest q a l ∈ l
  | [] => .inl rfl
  | c :: r => by
    refine .inr ?_
    have key : ∀ (r : List Cel) (t : Cel), r.foldl (fun t c => if lv q c < lv q t then c else t) t = t ∨ r.foldl (fun t c => if lv q c < lv q t then c else t) t ∈ r := by
      intro r
      induction r with
      | nil => intro t; exact .inl rfl
      | cons d r ih =>
        intro t
        simp only [List.foldl_cons]
        rcases ih (if lv q d < lv q t then d else t) with h | h
        · rw [h]; split
          · exact .inr (List.mem_cons_self ..)
          · exact .inl rfl
        · exact .inr (List.mem_cons_of_mem _ h)
    rcases key r c with h | h
    · simp only [lowest, h]; exact List.mem_cons_self ..
    · simp only [lowest]; exact List.mem_cons_of_mem _ h
theorem goes_in (hs : w ≤ 10 ∧ h ≤ 10) (q : Nat → Int) {a b : Cel} (ha : 0 ≤ a.1 ∧ a.1 < 10 ∧ 0 ≤ a.2 ∧ a.2 < 10) : 0 ≤ (goes w h g q a b).1 ∧ (goes w h g q a b).1 < 10 ∧ 0 ≤ (goes w h g q a b).2 ∧ (goes w h g q a b).2 < 10 := by
  unfold goes
  rcases lowest_mem q a (if 1 < (kept (fun c => ¬ Is w h g 0 c.1 c.2) (Near a.1 a.2)).length then kept (fun c => c.1 = b.1 ∧ c.2 = b.2) (kept (fun c => ¬ Is w h g 0 c.1 c.2) (Near a.1 a.2)) else kept (fun c => ¬ Is w h g 0 c.1 c.2) (Near a.1 a.2)) with e | e
  · simp only [e]; exact ha
  · exact near_in hs e
theorem Mole.Ok.next (hs : w ≤ 10 ∧ h ≤ 10) {m : Mole} (k : m.Ok) : (m.next w h g).Ok := by
  have hin := goes_in (g := g) hs m.q (b := m.b) k.a
  refine ⟨?_, hin⟩
  simp only [Mole.next, nextQ, nightLev]
  generalize goes w h g m.q m.a m.b = t at hin
  have hk : 10 * t.2.toNat + t.1.toNat < 100 := by omega
  have := k.v.cb _ hk
  split
  · rename_i h9; exact k.v.set hk (by simp only [lv] at h9 ⊢; omega)
  · exact k.v
theorem Mole.Ok.after (hs : w ≤ 10 ∧ h ≤ 10) {m : Mole} (k : m.Ok) : ∀ n, (m.after w h g n).Ok
  | 0 => k
  | n + 1 => (k.after hs n).next hs

section
variable {Γ : Nat → Option Fn} {dsts : Nat → Option Nat} {ops : List Oper} {Q : St → Prop} {σ : St} {gd : Option (Nat × Bool)} {l1 l2 l3 l4 : List Nat}
/-- A call that answers twice several cells. -/
theorem WR.ca2 {f e : Nat} {xs : List Opd} {fn : Fn} {as : List Arg} {b b' : List S} (hw : wanted dsts σ.env gd = some true) (hΓ : Γ f = some fn)
    (hn : mutIds fn.muts (xs.map (ev σ.env)) = []) (ha : args σ [] fn.muts (xs.map (ev σ.env)) = some as) (hg : Gives Γ f as ⟨[.agg b, .agg b'], []⟩) (hb : backs σ fn.muts (xs.map (ev σ.env)) [] = some [])
    (k : WR Γ dsts ops Q (set (some e) (.tup [.d (.agg b), .d (.agg b')]) σ)) : WR Γ dsts (⟨some e, .call f xs, gd, l1, l2, l3, l4⟩ :: ops) Q σ := by
  refine WR.call (d := e) (v := .tup [.d (.agg b), .d (.agg b')]) (ps := []) (ns := []) hw rfl rfl hΓ (by rw [hn]; rfl) (by rw [hn]; exact ha) hg hb rfl rfl rfl ?_
  simp only [List.append_nil, List.map_nil, insertAll, kill_nil]
  exact k
end
theorem finish_cs {fn : Fn} {σ : St} {as : List Arg} {t n p t' p' : Nat} {b : Bool} {cs : List S} {l : List Cel} (hr : fn.res = [.cell t n true, .tmp t']) (he : σ.env t = .a (.ptr p 0)) (ho : σ.objs p = some (.flat b cs)) (hl : cs.length = n)
    (he' : σ.env t' = .a (.sl p' 0 l.length 2)) (ho' : σ.objs p' = some (.flat false (encC l))) (hm : outsOf σ 0 as = some []) : finish fn as σ = some ⟨[.agg cs, .own l.length 2 (encC l)], []⟩ := by
  have h1 : retOf as σ (.a (.sl p' 0 l.length 2)) = some (.own l.length 2 (encC l), some p') := by
    simp only [retOf, ho']
    rw [if_pos (by rw [encC_length]; omega), encC_take l _ rfl]
  simp only [finish, hr, all?, resV, he, he', load, ho, loadC_all hl, Option.bind_some, Option.map_some, h1]
  simp [retOf, nodup, hm]

end Go.DM

/- The cells beside a cell, of the reference. -/
set_option linter.unusedSimpArgs false
set_option linter.unusedVariables false
namespace Go.DM
open Go.IntWalk
variable {w h : Int} {g : Nat → Int} {cs : List S} {q : Nat → Int} {qs : List S}

def inside (w h : Int) (l : List Cel) : List Cel := l.filter fun c => decide (Has w h c.1 c.2)
theorem filter_snoc {α : Type} {p : α → Bool} {l : List α} {i : Nat} {c : α} (h : l[i]? = some c) : (l.take (i + 1)).filter p = (l.take i).filter p ++ (if p c then [c] else []) := by
  rw [List.take_add_one, h, List.filter_append]
  congr 1
  simp only [Option.toList_some, List.filter_cons, List.filter_nil]
theorem Near_b {x y : Int} {c : Cel} (h : c ∈ Near x y) : x - 1 ≤ c.1 ∧ c.1 ≤ x + 1 ∧ y - 1 ≤ c.2 ∧ c.2 ≤ y + 1 := by
  simp only [Near, List.mem_cons, List.not_mem_nil, or_false] at h
  rcases h with rfl | rfl | rfl | rfl <;> simp <;> omega
theorem inside_step {w h : Int} {l : List Cel} {i : Nat} (hi : i < l.length) : inside w h (l.take (i + 1)) = inside w h (l.take i) ++ (if Has w h (gC l i).1 (gC l i).2 then [gC l i] else []) := by
  unfold inside; rw [filter_snoc (gC_get hi)]; congr 1; simp only [decide_eq_true_eq]
theorem inside_len {w h : Int} {l : List Cel} : (inside w h l).length ≤ l.length := List.length_filter_le ..
end Go.DM

/- All cells of a lawn, those for which something holds; open cells; codes. -/
set_option linter.unusedSimpArgs false
set_option linter.unusedVariables false
set_option maxHeartbeats 4000000
namespace Go.DM
open Go.IntWalk
variable {w h : Int} {g : Nat → Int} {cs : List S}

def cellsTo (W n : Nat) : List Cel := (List.range n).map fun i => (((i % W : Nat) : Int), ((i / W : Nat) : Int))
/-- All cells, in order. -/
def allC (w h : Int) : List Cel := cellsTo w.toNat (w.toNat * h.toNat)
theorem cellsTo_len (W n : Nat) : (cellsTo W n).length = n := by simp [cellsTo]
theorem cellsTo_succ {W y x : Nat} (hx : x < W) : cellsTo W (y * W + (x + 1)) = cellsTo W (y * W + x) ++ [((x : Int), (y : Int))] := by
  unfold cellsTo
  rw [← Nat.add_assoc, List.range_succ, List.map_append]
  congr 1
  have h1 : (y * W + x) % W = x := by rw [Nat.add_comm, Nat.add_mul_mod_self_right, Nat.mod_eq_of_lt hx]
  have h2 : (y * W + x) / W = y := by rw [Nat.add_comm, Nat.add_mul_div_right _ _ (by omega), Nat.div_eq_of_lt hx, Nat.zero_add]
  simp only [List.map_cons, List.map_nil, h1, h2]
theorem allC_len (hs : w ≤ 10 ∧ h ≤ 10) : (allC w h).length ≤ 100 := by
  rw [allC, cellsTo_len]
  have h3 : w.toNat * h.toNat ≤ 10 * 10 := Nat.mul_le_mul (by omega) (by omega)
  omega
theorem allC_mem {c : Cel} (hc : c ∈ allC w h) : Has w h c.1 c.2 := by
  unfold allC cellsTo at hc
  rw [List.mem_map] at hc
  obtain ⟨i, hi, rfl⟩ := hc
  rw [List.mem_range] at hi
  have hW : 0 < w.toNat := Nat.pos_of_ne_zero fun e => by rw [e] at hi; simp at hi
  have h1 := Nat.mod_lt i hW
  have h2 : i / w.toNat < h.toNat := Nat.div_lt_of_lt_mul hi
  generalize i / w.toNat = a at h1 h2 ⊢
  generalize i % w.toNat = b at h1 h2 ⊢
  simp only [Has]
  omega
/-- The number of a cell. -/
abbrev ix (c : Cel) : Nat := 10 * c.2.toNat + c.1.toNat
/-- All cells of a kind. -/
def ofKind (w h : Int) (g : Nat → Int) (k : Int) : List Cel := (allC w h).filter fun c => decide (g (ix c) = k)
/-- There is an open cell. -/
def Opn (w h : Int) (g : Nat → Int) (x y : Int) : Prop := Has w h x y ∧ (g (10 * y.toNat + x.toNat) = 0 ∨ g (10 * y.toNat + x.toNat) = 3)
instance (w h : Int) (g : Nat → Int) (x y : Int) : Decidable (Opn w h g x y) := inferInstanceAs (Decidable (_ ∧ _))
theorem bc_merge {ok fine a : Prop} {d1 : Decidable ok} {d2 : Decidable fine} {d3 : Decidable a} (h : ¬ belowCode ok fine True = 0) : belowCode ok fine True = belowCode ok fine a := by
  by_cases h1 : ok
  · by_cases h2 : fine
    · exact absurd (belowCode_zero.2 ⟨h1, h2, trivial⟩) h
    · simp only [belowCode, if_pos h1, if_neg h2]
  · simp only [belowCode, if_neg h1]
end Go.DM

/- Those cells for which something holds; slices.Repeat; codes of cells that have to be open. -/
set_option linter.unusedSimpArgs false
set_option linter.unusedVariables false
set_option maxHeartbeats 4000000
namespace Go.DM
open Go.IntWalk
variable {w h : Int} {g : Nat → Int} {cs : List S}

/-- Those of all cells. -/
def those (w h : Int) (P : Cel → Prop) [DecidablePred P] : List Cel := (allC w h).filter fun c => decide (P c)
theorem those_kept (P : Cel → Prop) [DecidablePred P] : kept (fun c => ¬ P c) (allC w h) = those w h P := by
  unfold kept those
  apply List.filter_congr
  intro c _
  simp
section
variable {dsts : Nat → Option Nat} {ops : List Oper} {Q : St → Prop} {σ : St} {gd : Option (Nat × Bool)} {l1 l2 l3 l4 : List Nat}
end
theorem those_grass : those w h (fun c => Is w h g 0 c.1 c.2) = ofKind w h g 0 := by
  unfold those ofKind
  apply List.filter_congr
  intro c hc
  have := allC_mem hc
  rw [decide_eq_decide]
  exact ⟨fun h => h.2, fun h => ⟨this, h⟩⟩

/-! slices.Repeat. -/

theorem elems_sl {objs : Nat → Option Ob} {v : V} {o off n es : Nat} {b : Bool} {cs : List S} (hv : v = .a (.sl o off n es)) (ho : objs o = some (.flat b cs)) (hl : off + n * es ≤ cs.length) : elems objs es v = some (n, (cs.drop off).take (n * es)) := by
  subst hv; simp only [elems, ho]; rw [if_pos ⟨trivial, hl⟩]
theorem rep_list {n t k : Nat} (ht : t + k ≤ n) (hk : k ≤ t) :
    (rowI .i64 n (fun i => if i < t then -1 else 0)).take t ++ ((rowI .i64 n (fun i => if i < t then -1 else 0)).take t).take k ++ (rowI .i64 n (fun i => if i < t then -1 else 0)).drop (t + k) = rowI .i64 n (fun i => if i < t + k then -1 else 0) := by
  have hl := rowI_len (k := .i64) (n := n) (f := fun i => if i < t then -1 else 0)
  have h1 : ((rowI .i64 n (fun i => if i < t then -1 else 0)).take t).length = t := by rw [List.length_take]; omega
  have h2 : (((rowI .i64 n (fun i => if i < t then -1 else 0)).take t).take k).length = k := by rw [List.length_take]; omega
  refine List.ext_getElem? fun j => ?_
  by_cases hj : j < n
  · rw [rowI_get hj]
    by_cases hj1 : j < t
    · rw [List.append_assoc, List.getElem?_append_left (by omega), List.getElem?_take_of_lt hj1, rowI_get hj, if_pos hj1, if_pos (by omega)]
    · by_cases hj2 : j < t + k
      · rw [List.getElem?_append_left (by rw [List.length_append]; omega), List.getElem?_append_right (by omega), h1, List.getElem?_take_of_lt (by omega), List.getElem?_take_of_lt (by omega), rowI_get (by omega), if_pos (by omega), if_pos (by omega)]
      · rw [List.getElem?_append_right (by rw [List.length_append]; omega), List.length_append, h1, h2, List.getElem?_drop, show t + k + (j - (t + k)) = j by omega, rowI_get hj, if_neg (by omega), if_neg (by omega)]
  · rw [List.getElem?_eq_none (by rw [List.length_append, List.length_append, h1, h2, List.length_drop]; omega), List.getElem?_eq_none (by rw [rowI_len]; omega)]
theorem rep_first {n : Nat} (hn : 1 ≤ n) : (rowI .i64 n fun _ => 0).take 0 ++ [S.int .i64 (-1)].take (1 * 1) ++ (rowI .i64 n fun _ => 0).drop (0 + 1 * 1) = rowI .i64 n (fun i => if i < 1 then -1 else 0) := by
  obtain ⟨m, rfl⟩ : ∃ m, n = m + 1 := ⟨n - 1, by omega⟩
  simp [rowI, List.range_succ_eq_map]
end Go.DM
