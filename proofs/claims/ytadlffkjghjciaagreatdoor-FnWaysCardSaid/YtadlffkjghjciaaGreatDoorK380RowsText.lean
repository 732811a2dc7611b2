/- Those cells for which something holds; slices.Repeat; codes of cells that have to be open. -/
import Derived.Test.YtadlffkjghjciaaGreatDoorK380All
import Derived.Test.YtadlffkjghjciaaGreatDoorK380SplitK
import Derived.Test.YtadlffkjghjciaaGreatDoorK380Beside
set_option linter.unusedSectionVars false
set_option linter.unusedSimpArgs false
set_option linter.unusedVariables false
set_option maxHeartbeats 4000000
namespace Go.DM
variable [Tok]
open Go.IntWalk
variable {w h : Int} {g : Nat → Int} {cs : List S}
theorem thoseNot_gives {x : D} {P : Cel → Prop} [DecidablePred P] {dom : Cel → Prop} (hx : HoldsC G x P dom) (u v : Int) (hd : dom (u, v)) : Gives G 64 [ac u v, .d (.refd x)] (rb (decide (¬ P (u, v)))) := by
  refine Gives.by rfl rfl (W.seq ?_)
  repeat' first | ((with_reducible apply WR.vh hx); exact rfl; exact rfl; exact rfl; exact hd) | ((with_reducible apply WR.nil)) | (with_reducible refine andThen_n ?_) | (with_reducible refine W.seq ?_) | (with_reducible refine W.region ?_) | (with_reducible refine W.ret ?_) | ((with_reducible apply Done.f); (intro hh hh2; exact (nomatch hh2)); (focus ((repeat' first | exact all_nil | apply all_cons | exact res_tmp rfl | exact rfl); done)); (focus ((repeat' first | exact all_nil | apply all_cons | exact retOf_s rfl | exact rfl); done)); exact rfl; (focus ((repeat' first | exact outs_nil | apply outs_d | exact rfl); done))) | (intro hb; try (exfalso; omega)) | ((with_reducible apply WR.mv); exact rfl; exact rfl) | ((with_reducible apply WR.ld); exact rfl; exact rfl; exact rfl; (first | exact ld2)) | ((with_reducible apply WR.lx); exact rfl; exact rfl) | ((with_reducible apply WR.bx); exact rfl; exact rfl; exact (by first | exact rfl); (exact rfl)) | ((with_reducible apply WR.un); exact rfl; exact rfl)
  · exact rb_f (fun h => h (by assumption))
  · exact rb_t (by assumption)
def those (w h : Int) (P : Cel → Prop) [DecidablePred P] : List Cel := (allC w h).filter fun c => decide (P c)
theorem those_kept (P : Cel → Prop) [DecidablePred P] : kept (fun c => ¬ P c) (allC w h) = those w h P := by
  unfold kept those
  apply List.filter_congr
  intro c _
  simp
section
variable {dsts : Nat → Option Nat} {ops : List Oper} {Q : St → Prop} {σ : St} {gd : Option (Nat × Bool)} {l1 l2 l3 l4 : List Nat}
theorem WR.de0 {e p f : Nat} {fn : Fn} {z : D} {a b : Opd} {v : V} (P : Cel → Prop) [DecidablePred P] (l : List Cel) (hl : l.length ≤ 1000) (hf : G f = some fn) (hm : fn.muts = []) (hP : ∀ c ∈ l, Gives G f [ac c.1 c.2, .d z] (rb (decide (P c))))
    (hw : wanted dsts σ.env gd = some true) (ha : ev σ.env a = .a (.sl p 0 l.length 2)) (ho : σ.objs p = some (.flat false (encC l))) (hb : ev σ.env b = v) (hz : toDV (fun o => if [p].contains o then none else σ.objs o) depth v = some (.clo f [] [z])) (hv : mutIds [] [v] = [])
    (k : WR G dsts ops Q (set (some e) (.a (.sl p 0 (kept P l).length 2)) (put p (.flat false (encC (kept P l ++ List.replicate (l.length - (kept P l).length) (0, 0)))) σ))) : WR G dsts (⟨some e, .call 63 [a, b], gd, l1, l2, l3, l4⟩ :: ops) Q σ :=
  WR.de P l [] hl hf hm hP hw ha (by rw [ho, List.append_nil]) hb hz hv (by rw [List.append_nil]; exact k)
end
theorem those_gives (l : IsLawn w h g cs) (hs : 0 ≤ w ∧ w ≤ 10 ∧ 0 ≤ h ∧ h ≤ 10) {x : D} {P : Cel → Prop} [DecidablePred P] {dom : Cel → Prop} (hx : HoldsC G x P dom) (hd : ∀ c, Has w h c.1 c.2 → dom c) :
    Gives G 31 [aa cs, .d x] ⟨[.own (those w h P).length 2 (encC (those w h P))], []⟩ := by
  have hal := allC_len (w := w) (h := h) (by omega)
  have hmem := fun c => allC_mem (w := w) (h := h) (c := c)
  have hk := those_kept (w := w) (h := h) P
  obtain ⟨f, fn, pre, post, rfl, h1, h2, h3⟩ := id hx
  refine Gives.by rfl rfl (W.seq ?_)
  repeat' first | ((with_reducible apply WR.c_o (f := 33) (fn := Code.f33)); exact rfl; exact rfl; exact rfl; (exact rfl); (focus ((repeat' first | exact args_nil | apply args_d | exact toD_d rfl | exact rfl); done)); exact all_gives (by assumption) (by omega); (exact rfl)) | ((with_reducible apply WR.nil)) | (with_reducible refine andThen_n ?_) | (with_reducible refine W.seq ?_) | (with_reducible refine W.region ?_) | ((with_reducible apply WR.mv); exact rfl; exact rfl) | ((with_reducible apply WR.bx); exact rfl; exact rfl; exact (by first | exact IsLawn.len (by assumption) | exact rfl); (exact rfl)) | ((with_reducible apply WR.bo); exact rfl; exact rfl; (exact rfl)) | ((with_reducible apply WR.ld); exact rfl; exact rfl; exact rfl; (first | exact loadC_all (IsLawn.len (by assumption)))) | ((with_reducible apply WR.mf); exact rfl; exact rfl)
  refine WR.de0 (fun c => ¬ P c) (allC w h) (by omega) rfl rfl (fun c hc => thoseNot_gives hx c.1 c.2 (hd _ (hmem c hc))) rfl rfl rfl rfl rfl rfl ?_
  rw [hk]
  repeat' first | ((with_reducible apply WR.nil)) | (with_reducible refine andThen_n ?_) | (with_reducible refine W.ret ?_) | ((with_reducible apply Done.f); (intro hh hh2; exact (nomatch hh2)); (focus ((repeat' first | exact all_nil | apply all_cons | exact res_tmp rfl); done)); (focus ((repeat' first | exact all_nil | apply all_cons | exact retOf_o2 rfl rfl rfl); done)); exact rfl; (focus ((repeat' first | exact outs_nil | apply outs_d); done))) | ((with_reducible apply WR.mv); exact rfl; exact rfl)
  all_goals rfl
theorem holds_grass (l : IsLawn w h g cs) (hs : w ≤ 10 ∧ h ≤ 10) : HoldsC G (.clo 32 [.agg cs] []) (fun c => Is w h g 0 c.1 c.2) (fun _ => True) :=
  ⟨32, Code.f32, _, _, rfl, rfl, rfl, fun c _ => grass_gives l c.1 c.2 (.inl hs)⟩
theorem holds_open (l : IsLawn w h g cs) (hs : w ≤ 10 ∧ h ≤ 10) : HoldsC G (.clo 77 [.agg cs] []) (fun c => Opn w h g c.1 c.2) (fun _ => True) :=
  ⟨77, Code.f77, _, _, rfl, rfl, rfl, fun c _ => open_gives l c.1 c.2 (.inl hs)⟩
theorem mul64_gives (y : Int) (hy : 0 ≤ y ∧ y < 4294967296) : Gives G 102 [ai .u64 1, ai .u64 y] ⟨[.s (.int .u64 0), .s (.int .u64 y)], []⟩ := by
  refine Gives.by rfl rfl (W.seq ?_)
  repeat' first | ((with_reducible apply WR.mv); exact rfl; exact rfl) | ((with_reducible apply WR.ml); exact rfl; exact rfl; exact rfl; (first | exact u64_in _ (by omega))) | ((with_reducible apply WR.sh); exact rfl; exact rfl; exact rfl; omega; exact rfl) | ((with_reducible apply WR.ad); exact rfl; exact rfl; exact rfl; (first | exact u64_in _ (by omega))) | ((with_reducible apply WR.ma); exact rfl; exact rfl; exact rfl; omega) | ((with_reducible apply WR.nil)) | (with_reducible refine andThen_n ?_) | (with_reducible refine W.seq ?_) | (with_reducible refine W.region ?_) | (with_reducible refine W.ret ?_) | ((with_reducible apply Done.f); (intro hh hh2; exact (nomatch hh2)); (focus ((repeat' first | exact all_nil | apply all_cons | exact res_tmp rfl); done)); (focus ((repeat' first | exact all_nil | apply all_cons | exact retOf_s rfl); done)); exact rfl; (focus ((repeat' first | exact outs_nil | apply outs_d); done)))
  all_goals (simp only [Int.one_mul, Int.zero_mul, Int.mul_zero, Int.add_zero, Int.zero_add]; rfl)
theorem mul_gives (y : Int) (hy : 0 ≤ y ∧ y < 4294967296) : Gives G 66 [ai .u64 1, ai .u64 y] ⟨[.s (.int .u64 0), .s (.int .u64 y)], []⟩ := by
  refine Gives.by rfl rfl (W.seq ?_)
  repeat' first | ((with_reducible apply WR.c_ss (f := 102) (fn := Code.f102)); exact rfl; exact rfl; exact rfl; (exact rfl); (focus ((repeat' first | exact args_nil | apply args_d | exact toD_d rfl | exact all_nil | apply all_cons | exact rfl); done)); exact mul64_gives _ (by omega)) | ((with_reducible apply WR.mv); exact rfl; exact rfl) | ((with_reducible apply WR.mvt); exact rfl; exact rfl) | ((with_reducible apply WR.ex); exact rfl; exact rfl) | ((with_reducible apply WR.nil)) | (with_reducible refine andThen_n ?_) | (with_reducible refine W.seq ?_) | (with_reducible refine W.region ?_) | (with_reducible refine W.skip ?_) | (with_reducible refine W.ret ?_) | ((with_reducible apply W.condF); exact rfl) | ((with_reducible apply Done.f); (intro hh hh2; exact (nomatch hh2)); (focus ((repeat' first | exact all_nil | apply all_cons | exact res_tmp rfl | exact rfl); done)); (focus ((repeat' first | exact all_nil | apply all_cons | exact retOf_s rfl | exact rfl); done)); exact rfl; (focus ((repeat' first | exact outs_nil | apply outs_d | exact rfl); done)))
  all_goals rfl
theorem elems_sl {objs : Nat → Option Ob} {v : V} {o off n es : Nat} {b : Bool} {cs : List S} (hv : v = .a (.sl o off n es)) (ho : objs o = some (.flat b cs)) (hl : off + n * es ≤ cs.length) : elems objs es v = some (n, (cs.drop off).take (n * es)) := by
  subst hv; simp only [elems, ho]; rw [if_pos ⟨trivial, hl⟩]
theorem rep_list {n t k : Nat} (ht : t + k ≤ n) (hk : k ≤ t) :
    (rowI .i64 n (fun i => if i < t then -1 else 0)).take t ++ ((rowI .i64 n (fun i => if i < t then -1 else 0)).take t).take k ++ (rowI .i64 n (fun i => if i < t then -1 else 0)).drop (t + k) = rowI .i64 n (fun i => if i < t + k then -1 else 0) := by
  have hl := rowI_len (k := .i64) (n := n) (f := fun i => if i < t then -1 else 0)
  have h1 : ((rowI .i64 n (fun i => if i < t then -1 else 0)).take t).length = t := by rw [List.length_take]; omega
  have h2 : (((rowI .i64 n (fun i => if i < t then -1 else 0)).take t).take k).length = k := by rw [List.length_take]; omega
  refine List.ext_getElem? fun j => ?_
  by_cases hj : j < n
  · rw [rowI_get hj]
    by_cases hj1 : j < t
    · rw [List.append_assoc, List.getElem?_append_left (by omega), List.getElem?_take_of_lt hj1, rowI_get hj, if_pos hj1, if_pos (by omega)]
    · by_cases hj2 : j < t + k
      · rw [List.getElem?_append_left (by rw [List.length_append]; omega), List.getElem?_append_right (by omega), h1, List.getElem?_take_of_lt (by omega), List.getElem?_take_of_lt (by omega), rowI_get (by omega), if_pos (by omega), if_pos (by omega)]
      · rw [List.getElem?_append_right (by rw [List.length_append]; omega), List.length_append, h1, h2, List.getElem?_drop, show t + k + (j - (t + k)) = j by omega, rowI_get hj, if_neg (by omega), if_neg (by omega)]
  · rw [List.getElem?_eq_none (by rw [List.length_append, List.length_append, h1, h2, List.length_drop]; omega), List.getElem?_eq_none (by rw [rowI_len]; omega)]
theorem rep_first {n : Nat} (hn : 1 ≤ n) : (rowI .i64 n fun _ => 0).take 0 ++ [S.int .i64 (-1)].take (1 * 1) ++ (rowI .i64 n fun _ => 0).drop (0 + 1 * 1) = rowI .i64 n (fun i => if i < 1 then -1 else 0) := by
  obtain ⟨m, rfl⟩ : ∃ m, n = m + 1 := ⟨n - 1, by omega⟩
  simp [rowI, List.range_succ_eq_map]
theorem repeat_gives (n : Nat) (hn : 1 ≤ n ∧ n ≤ 1000) : Gives G 88 [.d (.sl 1 1 [.int .i64 (-1)]), ai .i64 n] ⟨[.own n 1 (rowI .i64 n fun _ => -1)], []⟩ := by
  refine Gives.by rfl rfl (W.seq ?_)
  repeat' first | ((with_reducible apply WR.c_ss (f := 66) (fn := Code.f66)); exact rfl; exact rfl; exact rfl; (exact rfl); (focus ((repeat' first | exact args_nil | apply args_d | exact toD_d rfl | exact rfl); done)); exact mul_gives _ (by omega)) | ((with_reducible apply WR.mv); exact rfl; exact rfl) | ((with_reducible apply WR.mvt); exact rfl; exact rfl) | ((with_reducible apply WR.cv); exact rfl; exact rfl; (first | exact i64_in _ (by omega) | exact u64_in _ (by omega))) | ((with_reducible apply WR.nil)) | (with_reducible refine andThen_n ?_) | (with_reducible refine W.seq ?_) | (with_reducible refine W.region ?_) | (with_reducible refine W.skip ?_) | ((with_reducible apply W.condF); exact rfl) | (intro hb; try (exfalso; omega)) | ((with_reducible apply WR.lss); exact rfl; exact rfl; exact rfl) | ((with_reducible apply WR.gtr); exact rfl; exact rfl; exact rfl) | ((with_reducible apply WR.ex); exact rfl; exact rfl) | ((with_reducible apply WR.le); exact rfl; exact rfl) | ((with_reducible apply WR.pk); exact rfl; exact rfl)
  (with_reducible apply WR.mks); exact rfl; exact rfl; exact rfl; exact (by omega); exact rfl
  repeat' first | ((with_reducible apply WR.mv); exact rfl; exact rfl) | ((with_reducible apply WR.nil)) | (with_reducible refine andThen_n ?_) | (with_reducible refine W.seq ?_) | (with_reducible refine W.region ?_)
  (with_reducible apply WR.cy); exact rfl; exact (fun s h => by cases h); exact rfl; exact rfl; exact rfl; exact (by rw [rowI_len]; omega)
  have hm1 : Nat.min 1 n = 1 := Nat.min_eq_left hn.1
  rw [hm1, rep_first hn.1]
  repeat' first | ((with_reducible apply WR.mv); exact rfl; exact rfl) | ((with_reducible apply WR.nil)) | (with_reducible refine andThen_n ?_) | (with_reducible refine W.seq ?_) | (with_reducible refine W.block ?_)
  (refine (?_ : W _ (Code.loop _) _ _))
  (refine W.loopM [7] [] [] (fun t : (Nat) => (n - t : Nat)) (fun t : (Nat) => (1 ≤ t ∧ t ≤ n : Prop)) (fun t : (Nat) => [(8, .a (.d (.s (.int .i64 (t : Nat)))))]) (fun t : (Nat) => [(30, .flat false (rowI .i64 n (fun i => if i < t then -1 else 0)))]) 1 (by (try dsimp only); first | omega | exact trivial | exact ⟨by omega, rfl⟩ | exact ⟨by omega, by omega, rfl⟩ | (refine ⟨by omega, ?_⟩; simp; done) | (simp; done)) ⟨rfl, trivial⟩ ⟨rfl, trivial⟩ trivial ?_)
  rintro t σ hP hN; dsimp only [setL, putL] at hP ⊢
  repeat' first | ((with_reducible apply WR.mv); exact rfl; exact rfl) | ((with_reducible apply WH.mv); exact rfl; exact rfl; exact rfl) | ((with_reducible apply WR.nil)) | (with_reducible refine andThen_n ?_) | (with_reducible refine andThen_x ?_) | (with_reducible refine inB_x ?_) | (with_reducible refine W.seq ?_) | (with_reducible refine W.region ?_) | (with_reducible refine W.skip ?_) | (with_reducible refine W.ret ?_) | (with_reducible refine W.exit ?_) | (with_reducible refine W.block ?_) | ((with_reducible apply W.condT); exact rfl) | ((with_reducible apply W.condF); exact rfl) | ((with_reducible apply Done.f); (intro hh hh2; exact (nomatch hh2)); (focus ((repeat' first | exact all_nil | apply all_cons | exact res_tmp rfl | exact rfl); done)); (focus ((repeat' first | exact all_nil | apply all_cons | exact retOf_o rfl rfl (by first | exact rowI_len.trans (Nat.mul_one _).symm | exact rfl) | exact rfl); done)); exact rfl; (focus ((repeat' first | exact outs_nil | apply outs_d | exact rfl); done))) | (with_reducible refine W.draw ?_) | (intro hb; try (exfalso; omega)) | ((with_reducible apply WR.lss); exact rfl; exact rfl; exact rfl) | ((with_reducible apply WR.le); exact rfl; exact rfl) | ((with_reducible apply WH.s2x); exact rfl; exact rfl; (exact rfl); (exact rfl); exact ⟨by omega, by omega⟩; exact rfl)
  · have hk : Nat.min t (n - t) ≤ n - t := Nat.min_le_right ..
    have hk2 : Nat.min t (n - t) ≤ t := Nat.min_le_left ..
    have hk3 : 1 ≤ Nat.min t (n - t) := Nat.le_min.2 ⟨by omega, by omega⟩
    (with_reducible apply WH.cy); exact rfl; exact (fun s h => by cases h); exact rfl; exact rfl; exact elems_sl rfl rfl (by rw [rowI_len]; omega); exact (by rw [rowI_len]; omega); exact rfl
    simp only [Int.toNat_natCast, Nat.sub_zero, Nat.mul_one, Nat.zero_add, Nat.zero_mul, List.drop_zero]
    rw [rep_list (by omega) hk2]
    generalize Nat.min t (n - t) = k at hk hk2 hk3
    repeat' first | ((with_reducible apply WH.mv); exact rfl; exact rfl; exact rfl) | (with_reducible refine andThen_n ?_) | (with_reducible refine inB_n ?_) | ((with_reducible apply WH.nil)) | ((with_reducible apply WH.ad); exact rfl; exact rfl; exact rfl; (first | exact i64_in _ (by omega)))
    (refine W.nxt (t + k) (by first | omega | (dsimp only; omega)) ?_ ⟨rfl, trivial⟩ ⟨rfl, trivial⟩ ⟨rfl, trivial⟩ trivial trivial); (try dsimp only)
    omega
  · have e : (rowI .i64 n fun i => if i < t then -1 else 0) = rowI .i64 n fun _ => -1 := by
      simp only [rowI]
      apply List.map_congr_left
      intro i hi
      rw [List.mem_range] at hi
      rw [if_pos (by omega)]
    rw [e]
    repeat' first | ((with_reducible apply WR.c_ss (f := 66) (fn := Code.f66)); exact rfl; exact rfl; exact rfl; (exact rfl); (focus ((repeat' first | exact args_nil); done)); exact mul_gives _ (by omega))
    all_goals rfl
end Go.DM

/- Rows of letters and the pieces of a text: plain facts. -/
namespace Go.DM
variable [Tok]
def textC (w : Int) (L : Cel → UInt8) (A : List Cel) : List UInt8 := A.flatMap fun c => L c :: if c.1 = w - 1 then [10] else []
def rowL (L : Cel → UInt8) (W y : Nat) : List UInt8 := (List.range W).map fun (x : Nat) => L ((x : Int), (y : Int))
theorem textC_app (w : Int) (L : Cel → UInt8) (A B : List Cel) : textC w L (A ++ B) = textC w L A ++ textC w L B := by simp [textC]
theorem textC_part (L : Cel → UInt8) (W y : Nat) : ∀ x, x ≤ W → textC (W : Int) L (cellsTo W (y * W + x)) = textC (W : Int) L (cellsTo W (y * W)) ++ (rowL L x y) ++ (if x = W ∧ 0 < W then [10] else [])
  | 0, _ => by
    rw [if_neg (by omega)]; simp [rowL]
  | x + 1, h => by
    rw [cellsTo_succ (by omega), textC_app, textC_part L W y x (by omega), if_neg (by omega)]
    have e : textC (W : Int) L [((x : Int), (y : Int))] = L ((x : Int), (y : Int)) :: if (x : Int) = W - 1 then [10] else [] := by simp [textC]
    rw [e]
    have er : rowL L (x + 1) y = rowL L x y ++ [L ((x : Int), (y : Int))] := by simp [rowL, List.range_succ]
    rw [er]
    by_cases hx : x + 1 = W
    · rw [if_pos (by omega), if_pos (by omega)]; simp
    · rw [if_neg (by omega), if_neg (by omega)]; simp
theorem textC_rows (L : Cel → UInt8) (W : Nat) (hW : 0 < W) : ∀ H, textC (W : Int) L (cellsTo W (H * W)) = (List.range H).flatMap fun y => rowL L W y ++ [10]
  | 0 => by simp [cellsTo, textC]
  | H + 1 => by
    have := textC_part L W H W (Nat.le_refl _)
    rw [if_pos ⟨rfl, hW⟩] at this
    rw [Nat.succ_mul, this, textC_rows L W hW H, List.range_succ, List.flatMap_append]
    simp
theorem textC_all (L : Cel → UInt8) (W H : Nat) (hW : 0 < W) : textC (W : Int) L (allC (W : Int) (H : Int)) = (List.range H).flatMap fun y => rowL L W y ++ [10] := by
  rw [allC, Int.toNat_natCast, Int.toNat_natCast, Nat.mul_comm, textC_rows L W hW H]
theorem pieces_line {c : UInt8} : ∀ {l : List UInt8} (r : List UInt8), c ∉ l → pieces c (l ++ c :: r) = l :: pieces c r
  | [], r, _ => pieces_hit c r
  | b :: l, r, h => by
    have hb : b ≠ c := fun e => h (by rw [e]; exact List.mem_cons_self ..)
    have ih := pieces_line (l := l) r (fun hh => h (List.mem_cons_of_mem _ hh))
    obtain ⟨p, ps, h1, h2⟩ := pieces_miss hb (l ++ c :: r)
    rw [List.cons_append, h2]
    rw [ih] at h1
    cases h1; rfl
theorem pieces_lines {c : UInt8} : ∀ (ls : List (List UInt8)) (r : List UInt8), (∀ l ∈ ls, c ∉ l) → pieces c (ls.flatMap (· ++ [c]) ++ r) = ls ++ pieces c r
  | [], r, _ => rfl
  | l :: ls, r, h => by
    rw [List.flatMap_cons, List.append_assoc, List.append_assoc, List.singleton_append, pieces_line _ (h l (List.mem_cons_self ..)), pieces_lines ls r fun l' hl' => h l' (List.mem_cons_of_mem _ hl')]
    rfl
end Go.DM

/- Rows of letters: the program's rows. -/
set_option maxHeartbeats 4000000
namespace Go.DM
variable [Tok]
open Go.IntWalk
def LetC (x : D) (L : Cel → UInt8) (dom : Cel → Prop) : Prop :=
  ∃ f fn pre post, x = .clo f pre post ∧ G f = some fn ∧ fn.muts = [] ∧ ∀ c, dom c → Gives G f (pre.map .d ++ [ac c.1 c.2] ++ post.map .d) (ri .u8 (((L c).toNat : Nat) : Int))
section
variable {dsts : Nat → Option Nat} {ops : List Oper} {Q : St → Prop} {σ : St} {g : Option (Nat × Bool)} {l1 l2 l3 l4 : List Nat}
theorem let_call {x : D} {L : Cel → UInt8} {dom : Cel → Prop} (hx : LetC x L dom) {a b : Opd} {u v : Int} {e : Nat} {σ : St} (ha : ev σ.env a = .a (.d x)) (hb : ev σ.env b = .a (.d (.agg [.int .i8 u, .int .i8 v]))) (hd : dom (u, v)) :
    ∃ f fn vs as, callee σ (.callv a [b]) = some (f, vs) ∧ G f = some fn ∧ mutIds fn.muts vs = [] ∧ args σ [] fn.muts vs = some as ∧ Gives G f as (ri .u8 (((L (u, v)).toNat : Nat) : Int)) ∧ backs σ fn.muts vs [] = some [] := by
  obtain ⟨f, fn, pre, post, rfl, h1, h2, h3⟩ := hx
  refine ⟨f, fn, _, _, by simp [callee, ha, hb]; rfl, h1, ?_, ?_, h3 _ hd, ?_⟩
  · rw [h2]
    cases h : (pre.map (fun x => V.a (.d x)) ++ _ : List V) <;> rfl
  · rw [h2]
    have h0 : args σ [] [] (post.map fun x => V.a (.d x)) = some (post.map .d) := by
      have := args_pre σ post [] [] args_nil
      simpa using this
    have h4 := args_d (σ := σ) (ids := []) (v := .a (.d (.agg [.int .i8 u, .int .i8 v]))) (toD_d rfl) h0
    have h5 := args_pre σ pre _ _ h4
    simpa using h5
  · rw [h2]; exact backs_no
theorem WR.vl {x : D} {L : Cel → UInt8} {dom : Cel → Prop} (hx : LetC x L dom) {a b : Opd} {u v : Int} {e : Nat} (hw : wanted dsts σ.env g = some true) (ha : ev σ.env a = .a (.d x)) (hb : ev σ.env b = .a (.d (.agg [.int .i8 u, .int .i8 v]))) (hd : dom (u, v))
    (k1 : WR G dsts ops Q (set (some e) (.a (.d (.s (.int .u8 (((L (u, v)).toNat : Nat) : Int))))) σ)) : WR G dsts (⟨some e, .callv a [b], g, l1, l2, l3, l4⟩ :: ops) Q σ := by
  obtain ⟨f, fn, vs, as, h1, h2, h3, h4, h5, h6⟩ := let_call (e := e) hx ha hb hd
  refine WR.call (d := e) (v := .a (.d (.s (.int .u8 (((L (u, v)).toNat : Nat) : Int))))) (ps := []) (ns := []) hw rfl h1 h2 (by rw [h3]; rfl) (by rw [h3]; exact h4) h5 h6 rfl rfl rfl ?_
  simp only [List.append_nil, List.map_nil, insertAll, kill_nil]
  exact k1
end
def bI (l : List UInt8) : List Int := l.map fun b => ((b.toNat : Nat) : Int)
theorem bI_back (l : List UInt8) : (bI l).map (fun n => UInt8.ofNat n.toNat) = l := by
  unfold bI
  rw [List.map_map]
  conv => rhs; rw [← List.map_id l]
  apply List.map_congr_left
  intro b _
  simp
theorem bI_app (a b : List UInt8) : bI (a ++ b) = bI a ++ bI b := by simp [bI]
theorem textC_len (w : Int) (L : Cel → UInt8) (A : List Cel) : (textC w L A).length ≤ 2 * A.length := by
  unfold textC
  induction A with
  | nil => simp
  | cons c A ih =>
    rw [List.flatMap_cons, List.length_append, List.length_cons, List.length_cons]
    by_cases e : c.1 = w - 1
    · rw [if_pos e]; simp only [List.length_cons, List.length_nil]; omega
    · rw [if_neg e]; simp only [List.length_nil]; omega
theorem rows_gives {w h : Int} {g : Nat → Int} {cs : List S} (l : IsLawn w h g cs) (hs : 0 ≤ w ∧ w ≤ 10 ∧ 0 ≤ h ∧ h ≤ 10) {x : D} {L : Cel → UInt8} {dom : Cel → Prop} (hx : LetC x L dom) (hd : ∀ c, Has w h c.1 c.2 → dom c) :
    Gives G 244 [aa cs, .d x] ⟨[.s (.str (textC w L (allC w h)))], []⟩ := by
  have hal := allC_len (w := w) (h := h) (by omega)
  have hmem := fun c => allC_mem (w := w) (h := h) (c := c)
  have hl := l.w
  obtain ⟨f, fn, pre, post, rfl, h1, h2, h3⟩ := id hx
  refine Gives.by rfl rfl (W.seq ?_)
  repeat' first | ((with_reducible apply WR.c_o (f := 33) (fn := Code.f33)); exact rfl; exact rfl; exact rfl; (exact rfl); (focus ((repeat' first | exact args_nil | apply args_d | exact toD_d rfl | exact rfl); done)); exact all_gives (by assumption) (by omega); (exact rfl)) | ((with_reducible apply WR.mv); exact rfl; exact rfl) | ((with_reducible apply WR.ld); exact rfl; exact rfl; exact rfl; (first | exact loadC_all (IsLawn.len (by assumption)))) | ((with_reducible apply WR.bs); exact rfl; exact rfl; (exact rfl)) | ((with_reducible apply WR.nil)) | (with_reducible refine andThen_n ?_) | (with_reducible refine W.seq ?_) | (with_reducible refine W.region ?_) | (with_reducible refine W.block ?_) | ((with_reducible apply WR.bx); exact rfl; exact rfl; exact (by first | exact IsLawn.len (by assumption) | exact rfl); (exact rfl)) | ((with_reducible apply WR.le); exact rfl; exact rfl)
  generalize allC w h = A at hal hmem
  (refine (?_ : W _ (Code.loop _) _ _))
  (refine W.loopM [1, 2, 10, 11] [2, 10] [7, 19, 20, 21, 29, 30, 1019, 2019, 3019, 4019] (fun zz : (Nat) × (List Int) => match zz with | (i, T) => (A.length - i : Nat)) (fun zz : (Nat) × (List Int) => match zz with | (i, T) => (i ≤ A.length ∧ T = bI (textC w L (A.take i)) : Prop)) (fun zz : (Nat) × (List Int) => match zz with | (i, T) => [(5, .a (.sl 8 0 T.length 1)), (12, .a (.d (.s (.int .i64 (i : Nat)))))]) (fun zz : (Nat) × (List Int) => match zz with | (i, T) => [(8, .flat false (encI .u8 T))]) (0, []) (⟨by omega, by simp [textC, bI]⟩) ⟨rfl, rfl, trivial⟩ ⟨rfl, trivial⟩ ⟨np, np, np, np, np, np, np, np, np, np, trivial⟩ ?_)
  rintro ⟨i, T⟩ σ hP hN; dsimp only [setL, putL] at hP ⊢; obtain ⟨n7, hN⟩ := hN; obtain ⟨n19, hN⟩ := hN; obtain ⟨n20, hN⟩ := hN; obtain ⟨n21, hN⟩ := hN; obtain ⟨n29, hN⟩ := hN; obtain ⟨n30, hN⟩ := hN; obtain ⟨n1019, hN⟩ := hN; obtain ⟨n2019, hN⟩ := hN; obtain ⟨n3019, hN⟩ := hN; obtain ⟨n4019, hN⟩ := hN
  obtain ⟨hi, hT⟩ := hP
  by_cases hil : i < A.length
  · have hm := hmem _ (gC_mem hil)
    have hTl : T.length ≤ 200 := by
      rw [hT, bI, List.length_map]
      have := textC_len w L (A.take i)
      rw [List.length_take] at this; omega
    have hnx : textC w L (A.take (i + 1)) = textC w L (A.take i) ++ L (gC A i) :: if (gC A i).1 = w - 1 then [10] else [] := by
      rw [List.take_add_one, gC_get hil]; simp [textC]
    repeat' first | ((with_reducible apply WR.vl hx); exact rfl; exact rfl; exact rfl; exact hd _ hm) | ((with_reducible apply WR.mv); exact rfl; exact rfl) | ((with_reducible apply WR.ld); exact rfl; exact rfl; exact rfl; (first | exact ld2 | exact lawn_w (by assumption) | exact ldC (by first | omega))) | ((with_reducible apply WR.lx); exact rfl; exact rfl) | ((with_reducible apply WR.bsI1); exact rfl; exact rfl; (first | assumption | (focus ((repeat' first | assumption | (with_reducible apply noPar_set) | ((with_reducible apply noPar_puto); exact rfl) | (with_reducible apply noPar_kill)); done)))) | ((with_reducible apply WR.nil)) | (with_reducible refine andThen_n ?_) | (with_reducible refine inB_n ?_) | (with_reducible refine W.seq ?_) | (with_reducible refine W.region ?_) | (with_reducible refine W.skip ?_) | (with_reducible refine W.block ?_) | ((with_reducible apply W.condT); exact rfl) | ((with_reducible apply W.condF); exact rfl) | (intro hb; try (exfalso; omega)) | ((with_reducible apply WR.fa); exact rfl; exact rfl) | ((with_reducible apply WR.apI); exact rfl; exact rfl; exact rfl; exact rfl; (first | omega | (simp only [List.length_append, List.length_cons, List.length_nil]; omega))) | ((with_reducible apply WR.lss); exact rfl; exact rfl; exact rfl) | ((with_reducible apply WR.eql); exact rfl; exact rfl; exact rfl) | ((with_reducible apply WR.ad); exact rfl; exact rfl; exact rfl; (first | exact i64_in _ (by omega) | assumption | exact i8_in _ (by omega))) | ((with_reducible apply WR.sb); exact rfl; exact rfl; exact rfl; (first | exact i64_in _ (by omega) | assumption | exact i8_in _ (by omega))) | ((with_reducible apply WR.isn); exact rfl; exact rfl; exact rfl; omega) | ((with_reducible apply WR.al); exact rfl; (first | assumption | (focus ((repeat' first | assumption | (with_reducible apply noPar_set) | ((with_reducible apply noPar_puto); exact rfl) | (with_reducible apply noPar_kill)); done)))) | ((with_reducible apply WR.st); exact rfl; exact rfl; exact rfl; exact st2)
    · (refine W.nxt ((i + 1, (T ++ [(((L (gC A i)).toNat : Nat) : Int)]) ++ [10])) (by first | omega | (dsimp only; omega)) ?_ ⟨rfl, rfl, trivial⟩ ⟨rfl, trivial⟩ ⟨rfl, rfl, rfl, rfl, trivial⟩ ⟨rfl, rfl, trivial⟩ ⟨np, np, np, np, np, np, np, np, np, np, trivial⟩); (try dsimp only)
      refine ⟨by omega, ?_⟩
      rw [hnx, if_pos hb, hT]; simp [bI]
    · (refine W.nxt ((i + 1, T ++ [(((L (gC A i)).toNat : Nat) : Int)])) (by first | omega | (dsimp only; omega)) ?_ ⟨rfl, rfl, trivial⟩ ⟨rfl, trivial⟩ ⟨rfl, rfl, rfl, rfl, trivial⟩ ⟨rfl, rfl, trivial⟩ ⟨np, np, np, np, np, np, np, np, np, np, trivial⟩); (try dsimp only)
      refine ⟨by omega, ?_⟩
      rw [hnx, if_neg hb, hT]; simp [bI]
  · have hA : A.take i = A := List.take_of_length_le (by omega)
    rw [hA] at hT; subst hT
    repeat' first | ((with_reducible apply WR.mv); exact rfl; exact rfl) | ((with_reducible apply WR.nil)) | (with_reducible refine andThen_n ?_) | (with_reducible refine andThen_x ?_) | (with_reducible refine inB_x ?_) | (with_reducible refine W.seq ?_) | (with_reducible refine W.region ?_) | (with_reducible refine W.ret ?_) | (with_reducible refine W.exit ?_) | ((with_reducible apply W.condF); exact rfl) | ((with_reducible apply Done.f); (intro hh hh2; exact (nomatch hh2)); (focus ((repeat' first | exact all_nil | apply all_cons | exact res_tmp rfl); done)); (focus ((repeat' first | exact all_nil | apply all_cons | exact retOf_s rfl); done)); exact rfl; (focus ((repeat' first | exact outs_nil | apply outs_d); done))) | (intro hb; try (exfalso; omega)) | ((with_reducible apply WR.ob); exact rfl; exact rfl; exact rfl) | ((with_reducible apply WR.lss); exact rfl; exact rfl; exact rfl)
    rw [bI_back]; rfl
end Go.DM
