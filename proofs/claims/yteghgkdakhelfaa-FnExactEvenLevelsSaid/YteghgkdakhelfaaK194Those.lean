/- The cell with the greatest number: counting, both sides. -/
import Derived.Test.YteghgkdakhelfaaK194NightsS
import Derived.Test.YteghgkdakhelfaaK194MoleNights
import Derived.Test.YteghgkdakhelfaaK194All
set_option linter.unusedSimpArgs false
set_option linter.unusedVariables false
set_option maxHeartbeats 4000000
namespace Go.DM
open Go.IntWalk
variable {w h : Int} {g : Nat → Int} {cs : List S} {q : Nat → Int} {qs : List S}
abbrev In9 (c : Cel) : Prop := 0 ≤ c.1 ∧ c.1 < 10 ∧ 0 ≤ c.2 ∧ c.2 < 10
def kC (c : Cel) : Nat := 10 * c.2.toNat + c.1.toNat
theorem kC_inj {c d : Cel} (hc : In9 c) (hd : In9 d) (e : kC c = kC d) : c = d := by
  unfold kC at e
  have h1 : c.1 = d.1 := by omega
  have h2 : c.2 = d.2 := by omega
  exact Prod.ext h1 h2
/-- How often a cell stands in a row. -/
def cntL : List Cel → Cel → Int
  | [], _ => 0
  | d :: r, c => (if d = c then 1 else 0) + cntL r c
theorem cntL_b : ∀ (L : List Cel) (c : Cel), 0 ≤ cntL L c ∧ cntL L c ≤ L.length
  | [], _ => ⟨Int.le_refl _, Int.le_refl _⟩
  | d :: r, c => by
    have := cntL_b r c
    simp only [cntL, List.length_cons]
    split <;> omega
theorem cntL_snoc (c d : Cel) : ∀ L : List Cel, cntL (L ++ [d]) c = cntL L c + if d = c then 1 else 0
  | [] => by simp [cntL]
  | e :: r => by simp only [List.cons_append, cntL, cntL_snoc c d r]; omega
def MF (L : List Cel) : List (Cel × Int) := L.foldl bumpM []
theorem MF_snoc (L : List Cel) (c : Cel) : MF (L ++ [c]) = bumpM (MF L) c := by simp [MF, List.foldl_append]
theorem MF_cnt : ∀ (n : Nat) (L : List Cel), L.length = n → ∀ c, cntM (MF L) c = cntL L c
  | 0, L, hl, c => by obtain rfl := List.eq_nil_of_length_eq_zero hl; rfl
  | n + 1, L, hl, c => by
    have hne : L ≠ [] := fun e => by rw [e] at hl; cases hl
    have e := List.dropLast_concat_getLast hne
    have ih := MF_cnt n L.dropLast (by simp [hl])
    rw [← e, MF_snoc, cntM_bump, cntL_snoc, ih, ih]
    by_cases hc : c = L.getLast hne
    · rw [if_pos hc, hc]; simp
    · rw [if_neg hc, if_neg (fun e => hc e.symm)]; omega
def QF (L : List Cel) : Nat → Int := L.foldl (fun q c => gset q (kC c) (q (kC c) + 1)) (fun _ => 0)
theorem QF_snoc (L : List Cel) (c : Cel) : QF (L ++ [c]) = gset (QF L) (kC c) (QF L (kC c) + 1) := by simp [QF, List.foldl_append]
theorem QF_cnt : ∀ (n : Nat) (L : List Cel), L.length = n → (∀ d ∈ L, In9 d) → ∀ c, In9 c → QF L (kC c) = cntL L c
  | 0, L, hl, _, c, _ => by obtain rfl := List.eq_nil_of_length_eq_zero hl; rfl
  | n + 1, L, hl, hI, c, hc => by
    have hne : L ≠ [] := fun e => by rw [e] at hl; cases hl
    have e := List.dropLast_concat_getLast hne
    have hI1 : ∀ d ∈ L.dropLast, In9 d := fun d hd => hI d (by rw [← e]; exact List.mem_append_left _ hd)
    have hI2 : In9 (L.getLast hne) := hI _ (List.getLast_mem hne)
    have ih := QF_cnt n L.dropLast (by simp [hl]) hI1
    rw [← e, QF_snoc, cntL_snoc, ← ih c hc]
    unfold gset
    by_cases hk : c = L.getLast hne
    · rw [← hk]; simp
    · rw [if_neg (fun e => hk (kC_inj hc hI2 e)), if_neg (fun e => hk e.symm)]; omega
/-- The first cell of the greatest number. -/
def mostF (f : Cel → Int) (A : List Cel) : Cel × Int := A.foldl (fun s c => if s.2 < f c then (c, f c) else s) ((0, 0), 0)
theorem mostF_snoc (f : Cel → Int) (A : List Cel) (c : Cel) : mostF f (A ++ [c]) = if (mostF f A).2 < f c then (c, f c) else mostF f A := by
  unfold mostF; rw [List.foldl_append]; rfl
theorem mostF_go {f f' : Cel → Int} : ∀ {A : List Cel} (s0 : Cel × Int), (∀ c ∈ A, f c = f' c) → A.foldl (fun s c => if s.2 < f c then (c, f c) else s) s0 = A.foldl (fun s c => if s.2 < f' c then (c, f' c) else s) s0
  | [], _, _ => rfl
  | c :: r, s0, h => by
    rw [List.foldl_cons, List.foldl_cons, h c (List.mem_cons_self ..)]
    exact mostF_go _ fun d hd => h d (List.mem_cons_of_mem _ hd)
theorem mostF_congr {f f' : Cel → Int} {A : List Cel} (h : ∀ c ∈ A, f c = f' c) : mostF f A = mostF f' A := mostF_go _ h
theorem all_in9 (hs : w ≤ 10 ∧ h ≤ 10) : ∀ c ∈ allC w h, In9 c := fun c hc => by
  have := allC_mem hc
  unfold In9; omega
end Go.DM

/- The cell at which a mole is most often: both sides, the statement. -/
set_option linter.unusedSimpArgs false
set_option linter.unusedVariables false
set_option maxHeartbeats 4000000
namespace Go.DM
open Go.IntWalk
variable {w h : Int} {g : Nat → Int} {cs : List S} {q : Nat → Int} {qs : List S}
theorem path_in9 (hs : w ≤ 10 ∧ h ≤ 10) {m : Mole} (k : m.Ok) : ∀ n, ∀ c ∈ m.path w h g n, In9 c
  | 0, c, hc => by
    simp only [Mole.path, List.mem_singleton] at hc
    subst hc; exact k.a
  | n + 1, c, hc => by
    simp only [Mole.path, List.mem_append, List.mem_singleton] at hc
    rcases hc with hc | hc
    · exact path_in9 hs k n c hc
    · subst hc; exact (k.after hs (n + 1)).a
theorem ldC1 {l : List Cel} {k : Nat} (hk : k + 1 < l.length) : loadC 2 true (encC l) (0 + 1 * 2 + k * 2) = some (.a (.d (.agg [.int .i8 (gC l (k + 1)).1, .int .i8 (gC l (k + 1)).2]))) := by
  rw [show 0 + 1 * 2 + k * 2 = 0 + (k + 1) * 2 by omega]; exact ldC hk
theorem drop_take {l : List Cel} {i : Nat} (h : i + 1 < l.length) : (l.drop 1).take (i + 1) = (l.drop 1).take i ++ [gC l (i + 1)] := by
  rw [List.take_add_one, List.getElem?_drop, Nat.add_comm 1 i, gC_get h]; rfl
theorem mf_b (L : List Cel) (c : Cel) : 0 ≤ cntM (MF L) c ∧ cntM (MF L) c ≤ L.length := by
  rw [MF_cnt _ L rfl]; exact cntL_b L c
def mvRes (w h : Int) (g q : Nat → Int) (qs : List S) (a : Cel) (n : Int) : Res :=
  if molesCode w h g q a n = 0 then (if n = 0 then ⟨[.agg [.int .i8 0, .int .i8 0], .s (.int .i64 0), .s (.int .i64 6)], []⟩ else
    ⟨[.agg [.int .i8 (mostF (cntL (((Mole.mk q qs a a).path w h g n.toNat).drop 1)) (allC w h)).1.1, .int .i8 (mostF (cntL (((Mole.mk q qs a a).path w h g n.toNat).drop 1)) (allC w h)).1.2],
      .s (.int .i64 (mostF (cntL (((Mole.mk q qs a a).path w h g n.toNat).drop 1)) (allC w h)).2), .s (.int .i64 0)], []⟩)
  else ⟨[.agg [.int .i8 0, .int .i8 0], .s (.int .i64 0), .s (.int .i64 (molesCode w h g q a n))], []⟩
theorem most_map (L A : List Cel) : mostF (cntM (MF L)) A = mostF (cntL L) A := mostF_congr fun c _ => MF_cnt _ L rfl c
end Go.DM

/- Those cells for which something holds; slices.Repeat; codes of cells that have to be open. -/
set_option linter.unusedSimpArgs false
set_option linter.unusedVariables false
set_option maxHeartbeats 4000000
namespace Go.DM
open Go.IntWalk
variable {w h : Int} {g : Nat → Int} {cs : List S}

theorem thoseNot_gives {x : D} {P : Cel → Prop} [DecidablePred P] {dom : Cel → Prop} (hx : HoldsC G x P dom) (u v : Int) (hd : dom (u, v)) : Gives G 64 [ac u v, .d (.refd x)] (rb (decide (¬ P (u, v)))) := by
  refine Gives.by rfl rfl (W.seq ?_)
  repeat' first | ((with_reducible apply WR.vh hx); exact rfl; exact rfl; exact rfl; exact hd) | ((with_reducible apply WR.nil)) | (with_reducible refine andThen_n ?_) | (with_reducible refine W.seq ?_) | (with_reducible refine W.region ?_) | (with_reducible refine W.ret ?_) | ((with_reducible apply Done.f); (intro hh hh2; exact (nomatch hh2)); (focus ((repeat' first | exact all_nil | apply all_cons | exact res_tmp rfl | exact rfl); done)); (focus ((repeat' first | exact all_nil | apply all_cons | exact retOf_s rfl | exact rfl); done)); exact rfl; (focus ((repeat' first | exact outs_nil | apply outs_d | exact rfl); done))) | (intro hb; try (exfalso; omega)) | ((with_reducible apply WR.mv); exact rfl; exact rfl) | ((with_reducible apply WR.ld); exact rfl; exact rfl; exact rfl; (first | exact ld2)) | ((with_reducible apply WR.lx); exact rfl; exact rfl) | ((with_reducible apply WR.bx); exact rfl; exact rfl; exact (by first | exact rfl); (first | exact rfl)) | ((with_reducible apply WR.un); exact rfl; exact rfl)
  · exact rb_f (fun h => h (by assumption))
  · exact rb_t (by assumption)
/-- Those of all cells. -/
def those (w h : Int) (P : Cel → Prop) [DecidablePred P] : List Cel := (allC w h).filter fun c => decide (P c)
theorem those_kept (P : Cel → Prop) [DecidablePred P] : kept (fun c => ¬ P c) (allC w h) = those w h P := by
  unfold kept those
  apply List.filter_congr
  intro c _
  simp
section
variable {dsts : Nat → Option Nat} {ops : List Oper} {Q : St → Prop} {σ : St} {gd : Option (Nat × Bool)} {l1 l2 l3 l4 : List Nat}
theorem WR.de0 {e p f : Nat} {fn : Fn} {z : D} {a b : Opd} {v : V} (P : Cel → Prop) [DecidablePred P] (l : List Cel) (hl : l.length ≤ 1000) (hf : G f = some fn) (hm : fn.muts = []) (hP : ∀ c ∈ l, Gives G f [ac c.1 c.2, .d z] (rb (decide (P c))))
    (hw : wanted dsts σ.env gd = some true) (ha : ev σ.env a = .a (.sl p 0 l.length 2)) (ho : σ.objs p = some (.flat false (encC l))) (hb : ev σ.env b = v) (hz : toDV (fun o => if [p].contains o then none else σ.objs o) depth v = some (.clo f [] [z])) (hv : mutIds [] [v] = [])
    (k : WR G dsts ops Q (set (some e) (.a (.sl p 0 (kept P l).length 2)) (put p (.flat false (encC (kept P l ++ List.replicate (l.length - (kept P l).length) (0, 0)))) σ))) : WR G dsts (⟨some e, .call 63 [a, b], gd, l1, l2, l3, l4⟩ :: ops) Q σ :=
  WR.de P l [] hl hf hm hP hw ha (by rw [ho, List.append_nil]) hb hz hv (by rw [List.append_nil]; exact k)
end
theorem those_gives (l : IsLawn w h g cs) (hs : 0 ≤ w ∧ w ≤ 10 ∧ 0 ≤ h ∧ h ≤ 10) {x : D} {P : Cel → Prop} [DecidablePred P] {dom : Cel → Prop} (hx : HoldsC G x P dom) (hd : ∀ c, Has w h c.1 c.2 → dom c) :
    Gives G 31 [aa cs, .d x] ⟨[.own (those w h P).length 2 (encC (those w h P))], []⟩ := by
  have hal := allC_len (w := w) (h := h) (by omega)
  have hmem := fun c => allC_mem (w := w) (h := h) (c := c)
  have hk := those_kept (w := w) (h := h) P
  obtain ⟨f, fn, pre, post, rfl, h1, h2, h3⟩ := id hx
  refine Gives.by rfl rfl (W.seq ?_)
  repeat' first | ((with_reducible apply WR.c_o (f := 33) (fn := Code.f33)); exact rfl; exact rfl; exact rfl; (first | exact rfl); (focus ((repeat' first | exact args_nil | apply args_d | exact toD_d rfl | exact rfl); done)); exact all_gives (by assumption) (by omega); (first | exact rfl)) | ((with_reducible apply WR.nil)) | (with_reducible refine andThen_n ?_) | (with_reducible refine W.seq ?_) | (with_reducible refine W.region ?_) | ((with_reducible apply WR.mv); exact rfl; exact rfl) | ((with_reducible apply WR.bx); exact rfl; exact rfl; exact (by first | exact IsLawn.len (by assumption) | exact rfl); (first | exact rfl)) | ((with_reducible apply WR.bo); exact rfl; exact rfl; (first | exact rfl)) | ((with_reducible apply WR.ld); exact rfl; exact rfl; exact rfl; (first | exact loadC_all (IsLawn.len (by assumption)))) | ((with_reducible apply WR.mf); exact rfl; exact rfl)
  refine WR.de0 (fun c => ¬ P c) (allC w h) (by omega) rfl rfl (fun c hc => thoseNot_gives hx c.1 c.2 (hd _ (hmem c hc))) rfl rfl rfl rfl rfl rfl ?_
  rw [hk]
  repeat' first | ((with_reducible apply WR.nil)) | (with_reducible refine andThen_n ?_) | (with_reducible refine W.ret ?_) | ((with_reducible apply Done.f); (intro hh hh2; exact (nomatch hh2)); (focus ((repeat' first | exact all_nil | apply all_cons | exact res_tmp rfl); done)); (focus ((repeat' first | exact all_nil | apply all_cons | exact retOf_o2 rfl rfl rfl); done)); exact rfl; (focus ((repeat' first | exact outs_nil | apply outs_d); done))) | ((with_reducible apply WR.mv); exact rfl; exact rfl)
  all_goals rfl
/-- The closures of a lawn. -/
theorem holds_grass (l : IsLawn w h g cs) (hs : w ≤ 10 ∧ h ≤ 10) : HoldsC G (.clo 32 [.agg cs] []) (fun c => Is w h g 0 c.1 c.2) (fun _ => True) :=
  ⟨32, Code.f32, _, _, rfl, rfl, rfl, fun c _ => grass_gives l c.1 c.2 (.inl hs)⟩
theorem those_grass : those w h (fun c => Is w h g 0 c.1 c.2) = ofKind w h g 0 := by
  unfold those ofKind
  apply List.filter_congr
  intro c hc
  have := allC_mem hc
  rw [decide_eq_decide]
  exact ⟨fun h => h.2, fun h => ⟨this, h⟩⟩

/-! slices.Repeat. -/

theorem elems_sl {objs : Nat → Option Ob} {v : V} {o off n es : Nat} {b : Bool} {cs : List S} (hv : v = .a (.sl o off n es)) (ho : objs o = some (.flat b cs)) (hl : off + n * es ≤ cs.length) : elems objs es v = some (n, (cs.drop off).take (n * es)) := by
  subst hv; simp only [elems, ho]; rw [if_pos ⟨trivial, hl⟩]
theorem rep_list {n t k : Nat} (ht : t + k ≤ n) (hk : k ≤ t) :
    (rowI .i64 n (fun i => if i < t then -1 else 0)).take t ++ ((rowI .i64 n (fun i => if i < t then -1 else 0)).take t).take k ++ (rowI .i64 n (fun i => if i < t then -1 else 0)).drop (t + k) = rowI .i64 n (fun i => if i < t + k then -1 else 0) := by
  have hl := rowI_len (k := .i64) (n := n) (f := fun i => if i < t then -1 else 0)
  have h1 : ((rowI .i64 n (fun i => if i < t then -1 else 0)).take t).length = t := by rw [List.length_take]; omega
  have h2 : (((rowI .i64 n (fun i => if i < t then -1 else 0)).take t).take k).length = k := by rw [List.length_take]; omega
  refine List.ext_getElem? fun j => ?_
  by_cases hj : j < n
  · rw [rowI_get hj]
    by_cases hj1 : j < t
    · rw [List.append_assoc, List.getElem?_append_left (by omega), List.getElem?_take_of_lt hj1, rowI_get hj, if_pos hj1, if_pos (by omega)]
    · by_cases hj2 : j < t + k
      · rw [List.getElem?_append_left (by rw [List.length_append]; omega), List.getElem?_append_right (by omega), h1, List.getElem?_take_of_lt (by omega), List.getElem?_take_of_lt (by omega), rowI_get (by omega), if_pos (by omega), if_pos (by omega)]
      · rw [List.getElem?_append_right (by rw [List.length_append]; omega), List.length_append, h1, h2, List.getElem?_drop, show t + k + (j - (t + k)) = j by omega, rowI_get hj, if_neg (by omega), if_neg (by omega)]
  · rw [List.getElem?_eq_none (by rw [List.length_append, List.length_append, h1, h2, List.length_drop]; omega), List.getElem?_eq_none (by rw [rowI_len]; omega)]
theorem rep_first {n : Nat} (hn : 1 ≤ n) : (rowI .i64 n fun _ => 0).take 0 ++ [S.int .i64 (-1)].take (1 * 1) ++ (rowI .i64 n fun _ => 0).drop (0 + 1 * 1) = rowI .i64 n (fun i => if i < 1 then -1 else 0) := by
  obtain ⟨m, rfl⟩ : ∃ m, n = m + 1 := ⟨n - 1, by omega⟩
  simp [rowI, List.range_succ_eq_map]
end Go.DM
