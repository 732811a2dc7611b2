/- All cells of a lawn, those for which something holds; open cells; codes. -/
import Derived.Test.YtaocbbdkiemhaaaK139Rule
import Derived.Test.YtaocbbdkiemhaaaK139More
import Derived.Test.YtaocbbdkiemhaaaK139Beside
set_option linter.unusedSimpArgs false
set_option linter.unusedVariables false
set_option maxHeartbeats 4000000
namespace Go.DM
set_option linter.unusedSectionVars false
variable [Tok]
open Go.IntWalk
variable {w h : Int} {g : Nat → Int} {cs : List S}

def cellsTo (W n : Nat) : List Cel := (List.range n).map fun i => (((i % W : Nat) : Int), ((i / W : Nat) : Int))
/-- All cells, in order. -/
def allC (w h : Int) : List Cel := cellsTo w.toNat (w.toNat * h.toNat)
theorem cellsTo_len (W n : Nat) : (cellsTo W n).length = n := by simp [cellsTo]
theorem cellsTo_succ {W y x : Nat} (hx : x < W) : cellsTo W (y * W + (x + 1)) = cellsTo W (y * W + x) ++ [((x : Int), (y : Int))] := by
  unfold cellsTo
  rw [← Nat.add_assoc, List.range_succ, List.map_append]
  congr 1
  have h1 : (y * W + x) % W = x := by rw [Nat.add_comm, Nat.add_mul_mod_self_right, Nat.mod_eq_of_lt hx]
  have h2 : (y * W + x) / W = y := by rw [Nat.add_comm, Nat.add_mul_div_right _ _ (by omega), Nat.div_eq_of_lt hx, Nat.zero_add]
  simp only [List.map_cons, List.map_nil, h1, h2]
theorem allC_len (hs : w ≤ 10 ∧ h ≤ 10) : (allC w h).length ≤ 100 := by
  rw [allC, cellsTo_len]
  have h3 : w.toNat * h.toNat ≤ 10 * 10 := Nat.mul_le_mul (by omega) (by omega)
  omega
theorem allC_mem {c : Cel} (hc : c ∈ allC w h) : Has w h c.1 c.2 := by
  unfold allC cellsTo at hc
  rw [List.mem_map] at hc
  obtain ⟨i, hi, rfl⟩ := hc
  rw [List.mem_range] at hi
  have hW : 0 < w.toNat := Nat.pos_of_ne_zero fun e => by rw [e] at hi; simp at hi
  have h1 := Nat.mod_lt i hW
  have h2 : i / w.toNat < h.toNat := Nat.div_lt_of_lt_mul hi
  generalize i / w.toNat = a at h1 h2 ⊢
  generalize i % w.toNat = b at h1 h2 ⊢
  simp only [Has]
  omega
/-- The number of a cell. -/
abbrev ix (c : Cel) : Nat := 10 * c.2.toNat + c.1.toNat
/-- All cells of a kind. -/
def ofKind (w h : Int) (g : Nat → Int) (k : Int) : List Cel := (allC w h).filter fun c => decide (g (ix c) = k)
/-- There is an open cell. -/
def Opn (w h : Int) (g : Nat → Int) (x y : Int) : Prop := Has w h x y ∧ (g (10 * y.toNat + x.toNat) = 0 ∨ g (10 * y.toNat + x.toNat) = 3)
instance (w h : Int) (g : Nat → Int) (x y : Int) : Decidable (Opn w h g x y) := inferInstanceAs (Decidable (_ ∧ _))
theorem open_gives (l : IsLawn w h g cs) (x y : Int) (hs : (w ≤ 10 ∧ h ≤ 10) ∨ (x < 10 ∧ y < 10)) : Gives G 77 [aa cs, ac x y] (rb (decide (Opn w h g x y))) := by
  refine Gives.by rfl rfl (W.seq ?_)
  repeat' first | ((with_reducible apply WR.c_p (f := 65) (fn := Code.f65)); exact rfl; exact rfl; exact rfl; (first | exact rfl); (focus ((repeat' first | exact args_nil | apply args_d | exact toD_d rfl | exact all_nil | apply all_cons | exact rfl); done)); exact is_gives (by assumption) _ _ _ (by omega)) | ((with_reducible apply WR.ld); exact rfl; exact rfl; exact rfl; (first | exact ld2 | exact loadC_all (IsLawn.len (by assumption)))) | ((with_reducible apply WR.mv); exact rfl; exact rfl) | ((with_reducible apply WR.nil)) | (with_reducible refine andThen_n ?_) | (with_reducible refine W.seq ?_) | (with_reducible refine W.region ?_) | (with_reducible refine W.ret ?_) | ((with_reducible apply Done.f); (intro hh hh2; exact (nomatch hh2)); (focus ((repeat' first | exact all_nil | apply all_cons | exact res_tmp rfl | exact rfl); done)); (focus ((repeat' first | exact all_nil | apply all_cons | exact retOf_s rfl | exact rfl); done)); exact rfl; (focus ((repeat' first | exact outs_nil | apply outs_d | exact rfl); done))) | (intro hb; try (exfalso; omega)) | ((with_reducible apply WR.bx); exact rfl; exact rfl; exact (by first | exact IsLawn.len (by assumption) | exact rfl); (first | exact rfl)) | ((with_reducible apply WR.off); exact rfl) | ((with_reducible apply WR.pk); exact rfl; exact rfl)
  all_goals first
    | exact rb_t (by simp only [Is, Opn, Has] at *; omega)
    | exact rb_f (by simp only [Is, Opn, Has] at *; omega)
theorem l01Open_gives (l : IsLawn w h g cs) (x y : Int) (hb : 0 ≤ x ∧ x < 10 ∧ 0 ≤ y ∧ y < 10) : Gives G 72 [ar cs, ac x y] (rb (decide (g (10 * y.toNat + x.toNat) = 0 ∨ g (10 * y.toNat + x.toNat) = 3))) := by
  refine Gives.by rfl rfl (W.seq ?_)
  repeat' first | ((with_reducible apply WR.c_s (f := 61) (fn := Code.f61)); exact rfl; exact rfl; exact rfl; (first | exact rfl); (focus ((repeat' first | exact args_nil | apply args_d | exact toD_d rfl | exact all_nil | apply all_cons | exact rfl); done)); exact l01At_gives (by assumption) _ _ (by omega)) | ((with_reducible apply WR.mv); exact rfl; exact rfl) | ((with_reducible apply WR.nil)) | (with_reducible refine andThen_n ?_) | (with_reducible refine W.seq ?_) | (with_reducible refine W.region ?_) | (with_reducible refine W.ret ?_) | ((with_reducible apply Done.f); (intro hh hh2; exact (nomatch hh2)); (focus ((repeat' first | exact all_nil | apply all_cons | exact res_tmp rfl | exact rfl); done)); (focus ((repeat' first | exact all_nil | apply all_cons | exact retOf_s rfl | exact rfl); done)); exact rfl; (focus ((repeat' first | exact outs_nil | apply outs_d | exact rfl); done))) | (intro hb; try (exfalso; omega)) | ((with_reducible apply WR.off); exact rfl) | ((with_reducible apply WR.eql); exact rfl; exact rfl; exact rfl) | ((with_reducible apply WR.ld); exact rfl; exact rfl; exact rfl; (first | exact ld2)) | ((with_reducible apply WR.bx); exact rfl; exact rfl; exact (by first | exact rfl); (first | exact rfl)) | ((with_reducible apply WR.pk); exact rfl; exact rfl)
  all_goals first
    | exact rb_t (by omega)
    | exact rb_f (by omega)
theorem bc_merge {ok fine a : Prop} {d1 : Decidable ok} {d2 : Decidable fine} {d3 : Decidable a} (h : ¬ belowCode ok fine True = 0) : belowCode ok fine True = belowCode ok fine a := by
  by_cases h1 : ok
  · by_cases h2 : fine
    · exact absurd (belowCode_zero.2 ⟨h1, h2, trivial⟩) h
    · simp only [belowCode, if_pos h1, if_neg h2]
  · simp only [belowCode, if_neg h1]
end Go.DM

/- Those cells for which something holds; slices.Repeat; codes of cells that have to be open. -/
set_option linter.unusedSimpArgs false
set_option linter.unusedVariables false
set_option maxHeartbeats 4000000
namespace Go.DM
set_option linter.unusedSectionVars false
variable [Tok]
open Go.IntWalk
variable {w h : Int} {g : Nat → Int} {cs : List S}

/-- Those of all cells. -/
def those (w h : Int) (P : Cel → Prop) [DecidablePred P] : List Cel := (allC w h).filter fun c => decide (P c)
theorem those_kept (P : Cel → Prop) [DecidablePred P] : kept (fun c => ¬ P c) (allC w h) = those w h P := by
  unfold kept those
  apply List.filter_congr
  intro c _
  simp
section
variable {dsts : Nat → Option Nat} {ops : List Oper} {Q : St → Prop} {σ : St} {gd : Option (Nat × Bool)} {l1 l2 l3 l4 : List Nat}
end
theorem holds_open (l : IsLawn w h g cs) (hs : w ≤ 10 ∧ h ≤ 10) : HoldsC G (.clo 77 [.agg cs] []) (fun c => Opn w h g c.1 c.2) (fun _ => True) :=
  ⟨77, Code.f77, _, _, rfl, rfl, rfl, fun c _ => open_gives l c.1 c.2 (.inl hs)⟩
theorem those_grass : those w h (fun c => Is w h g 0 c.1 c.2) = ofKind w h g 0 := by
  unfold those ofKind
  apply List.filter_congr
  intro c hc
  have := allC_mem hc
  rw [decide_eq_decide]
  exact ⟨fun h => h.2, fun h => ⟨this, h⟩⟩

/-! slices.Repeat. -/
theorem mul64_gives (y : Int) (hy : 0 ≤ y ∧ y < 4294967296) : Gives G 102 [ai .u64 1, ai .u64 y] ⟨[.s (.int .u64 0), .s (.int .u64 y)], []⟩ := by
  refine Gives.by rfl rfl (W.seq ?_)
  repeat' first | ((with_reducible apply WR.mv); exact rfl; exact rfl) | ((with_reducible apply WR.ml); exact rfl; exact rfl; exact rfl; (first | exact u64_in _ (by omega))) | ((with_reducible apply WR.sh); exact rfl; exact rfl; exact rfl; omega; exact rfl) | ((with_reducible apply WR.ad); exact rfl; exact rfl; exact rfl; (first | exact u64_in _ (by omega))) | ((with_reducible apply WR.ma); exact rfl; exact rfl; exact rfl; omega) | ((with_reducible apply WR.nil)) | (with_reducible refine andThen_n ?_) | (with_reducible refine W.seq ?_) | (with_reducible refine W.region ?_) | (with_reducible refine W.ret ?_) | ((with_reducible apply Done.f); (intro hh hh2; exact (nomatch hh2)); (focus ((repeat' first | exact all_nil | apply all_cons | exact res_tmp rfl); done)); (focus ((repeat' first | exact all_nil | apply all_cons | exact retOf_s rfl); done)); exact rfl; (focus ((repeat' first | exact outs_nil | apply outs_d); done)))
  all_goals (simp only [Int.one_mul, Int.zero_mul, Int.mul_zero, Int.add_zero, Int.zero_add]; rfl)
theorem mul_gives (y : Int) (hy : 0 ≤ y ∧ y < 4294967296) : Gives G 66 [ai .u64 1, ai .u64 y] ⟨[.s (.int .u64 0), .s (.int .u64 y)], []⟩ := by
  refine Gives.by rfl rfl (W.seq ?_)
  repeat' first | ((with_reducible apply WR.c_ss (f := 102) (fn := Code.f102)); exact rfl; exact rfl; exact rfl; (first | exact rfl); (focus ((repeat' first | exact args_nil | apply args_d | exact toD_d rfl | exact all_nil | apply all_cons | exact rfl); done)); exact mul64_gives _ (by omega)) | ((with_reducible apply WR.mv); exact rfl; exact rfl) | ((with_reducible apply WR.mvt); exact rfl; exact rfl) | ((with_reducible apply WR.ex); exact rfl; exact rfl) | ((with_reducible apply WR.nil)) | (with_reducible refine andThen_n ?_) | (with_reducible refine W.seq ?_) | (with_reducible refine W.region ?_) | (with_reducible refine W.skip ?_) | (with_reducible refine W.ret ?_) | ((with_reducible apply W.condF); exact rfl) | ((with_reducible apply Done.f); (intro hh hh2; exact (nomatch hh2)); (focus ((repeat' first | exact all_nil | apply all_cons | exact res_tmp rfl | exact rfl); done)); (focus ((repeat' first | exact all_nil | apply all_cons | exact retOf_s rfl | exact rfl); done)); exact rfl; (focus ((repeat' first | exact outs_nil | apply outs_d | exact rfl); done)))
  all_goals rfl

theorem elems_sl {objs : Nat → Option Ob} {v : V} {o off n es : Nat} {b : Bool} {cs : List S} (hv : v = .a (.sl o off n es)) (ho : objs o = some (.flat b cs)) (hl : off + n * es ≤ cs.length) : elems objs es v = some (n, (cs.drop off).take (n * es)) := by
  subst hv; simp only [elems, ho]; rw [if_pos ⟨trivial, hl⟩]
theorem rep_list {n t k : Nat} (ht : t + k ≤ n) (hk : k ≤ t) :
    (rowI .i64 n (fun i => if i < t then -1 else 0)).take t ++ ((rowI .i64 n (fun i => if i < t then -1 else 0)).take t).take k ++ (rowI .i64 n (fun i => if i < t then -1 else 0)).drop (t + k) = rowI .i64 n (fun i => if i < t + k then -1 else 0) := by
  have hl := rowI_len (k := .i64) (n := n) (f := fun i => if i < t then -1 else 0)
  have h1 : ((rowI .i64 n (fun i => if i < t then -1 else 0)).take t).length = t := by rw [List.length_take]; omega
  have h2 : (((rowI .i64 n (fun i => if i < t then -1 else 0)).take t).take k).length = k := by rw [List.length_take]; omega
  refine List.ext_getElem? fun j => ?_
  by_cases hj : j < n
  · rw [rowI_get hj]
    by_cases hj1 : j < t
    · rw [List.append_assoc, List.getElem?_append_left (by omega), List.getElem?_take_of_lt hj1, rowI_get hj, if_pos hj1, if_pos (by omega)]
    · by_cases hj2 : j < t + k
      · rw [List.getElem?_append_left (by rw [List.length_append]; omega), List.getElem?_append_right (by omega), h1, List.getElem?_take_of_lt (by omega), List.getElem?_take_of_lt (by omega), rowI_get (by omega), if_pos (by omega), if_pos (by omega)]
      · rw [List.getElem?_append_right (by rw [List.length_append]; omega), List.length_append, h1, h2, List.getElem?_drop, show t + k + (j - (t + k)) = j by omega, rowI_get hj, if_neg (by omega), if_neg (by omega)]
  · rw [List.getElem?_eq_none (by rw [List.length_append, List.length_append, h1, h2, List.length_drop]; omega), List.getElem?_eq_none (by rw [rowI_len]; omega)]
theorem rep_first {n : Nat} (hn : 1 ≤ n) : (rowI .i64 n fun _ => 0).take 0 ++ [S.int .i64 (-1)].take (1 * 1) ++ (rowI .i64 n fun _ => 0).drop (0 + 1 * 1) = rowI .i64 n (fun i => if i < 1 then -1 else 0) := by
  obtain ⟨m, rfl⟩ : ∃ m, n = m + 1 := ⟨n - 1, by omega⟩
  simp [rowI, List.range_succ_eq_map]
end Go.DM
