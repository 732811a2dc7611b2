/- All cells of a lawn, those for which something holds; open cells; codes. -/
import Derived.Test.YtgbifpijjfolbaaGreatK441Text
import Derived.Test.YtgbifpijjfolbaaGreatK441More
import Derived.Test.YtgbifpijjfolbaaGreatK441Beside
set_option linter.all false
set_option maxHeartbeats 4000000
namespace Go.DM
variable [Tok]
open Go.IntWalk
variable {w h : Int} {g : Nat → Int} {cs : List S}
def cellsTo (W n : Nat) : List Cel := (List.range n).map fun i => (((i % W : Nat) : Int), ((i / W : Nat) : Int))
def allC (w h : Int) : List Cel := cellsTo w.toNat (w.toNat * h.toNat)
theorem cellsTo_len (W n : Nat) : (cellsTo W n).length = n := by simp [cellsTo]
theorem cellsTo_succ {W y x : Nat} (hx : x < W) : cellsTo W (y * W + (x + 1)) = cellsTo W (y * W + x) ++ [((x : Int), (y : Int))] := by
  unfold cellsTo
  rw [← Nat.add_assoc, List.range_succ, List.map_append]
  congr 1
  have h1 : (y * W + x) % W = x := by rw [Nat.add_comm, Nat.add_mul_mod_self_right, Nat.mod_eq_of_lt hx]
  have h2 : (y * W + x) / W = y := by rw [Nat.add_comm, Nat.add_mul_div_right _ _ (by omega), Nat.div_eq_of_lt hx, Nat.zero_add]
  simp only [List.map_cons, List.map_nil, h1, h2]
theorem all_gives (l : IsLawn w h g cs) (hs : 0 ≤ w ∧ w ≤ 10 ∧ 0 ≤ h ∧ h ≤ 10) : Gives G 33 [aa cs] ⟨[.own (allC w h).length 2 (encC (allC w h))], []⟩ := by
  obtain ⟨W0, rfl⟩ : ∃ W0 : Nat, w = W0 := ⟨w.toNat, by omega⟩
  obtain ⟨H0, rfl⟩ : ∃ H0 : Nat, h = H0 := ⟨h.toNat, by omega⟩
  refine Gives.by rfl rfl (W.seq ?_)
  repeat' first | ((with_reducible first | apply WR.mv | apply WR.fa); exact rfl; exact rfl) | (with_reducible first | apply WR.nil | refine andThen_n ?_ | refine W.seq ?_ | refine W.region ?_ | refine W.block ?_) | ((with_reducible apply WR.ld); (iterate 3 exact rfl); (exact lawn_h (by assumption))) | ((with_reducible apply WR.bs0); exact rfl; exact rfl) | ((with_reducible apply WR.bx); exact rfl; exact rfl; exact (by first | exact IsLawn.len (by assumption) | exact rfl); exact rfl)
  have hbb : ∀ y x : Nat, y ≤ H0 → x ≤ W0 → (cellsTo W0 (y * W0 + x)).length ≤ 200 := fun y x h1 h2 => by
    rw [cellsTo_len]
    have := Nat.mul_le_mul h1 (Nat.le_refl W0)
    have h3 : H0 * W0 ≤ 10 * 10 := Nat.mul_le_mul (by omega) (by omega)
    omega
  (refine (?_ : W _ (Code.loop _) _ _))
  (refine W.loopM [1, 8] [1] [21, 22] (fun ((y, out) : (Nat) × (List Cel)) => (H0 - y : Nat)) (fun ((y, out) : (Nat) × (List Cel)) => (y ≤ H0 ∧ out = cellsTo W0 (y * W0) : Prop)) (fun z : (Nat) × (List Cel) => match z with | (y, out) => [(3, .a (.sl 6 0 out.length 2)), (9, .a (.d (.s (.int .i8 (y : Nat)))))]) (fun z : (Nat) × (List Cel) => match z with | (y, out) => [(6, .flat false (encC out))]) (0, []) (⟨by omega, by simp [cellsTo]⟩) ⟨rfl, rfl, trivial⟩ ⟨rfl, trivial⟩ ⟨np, np, trivial⟩ ?_)
  rintro ⟨y, out⟩ σ hP hN; dsimp only [setL, putL] at hP ⊢; obtain ⟨n21, hN⟩ := hN; obtain ⟨n22, hN⟩ := hN
  obtain ⟨hy, ho⟩ := hP
  repeat' first | ((with_reducible first | apply WR.mv | apply WR.fa); exact rfl; exact rfl) | (with_reducible first | apply WR.nil | refine andThen_n ?_ | refine andThen_x ?_ | refine inB_x ?_ | refine W.seq ?_ | refine W.region ?_ | refine W.skip ?_ | refine W.ret ?_ | refine W.exit ?_ | refine W.block ?_) | ((with_reducible apply W.condT); exact rfl) | ((with_reducible apply W.condF); exact rfl) | ((with_reducible apply Done.f); (intro hh hh2; exact (nomatch hh2)); (focus ((repeat' first | exact all_nil | apply all_cons | exact res_tmp rfl); done)); (focus ((repeat' first | exact all_nil | apply all_cons | exact retOf_o rfl rfl (by first | exact encC_length _)); done)); exact rfl; (focus ((repeat' first | exact outs_nil | apply outs_d); done))) | (intro hb; try (exfalso; omega)) | ((with_reducible apply WR.lss); iterate 3 exact rfl) | ((with_reducible apply WR.ld); (iterate 3 exact rfl); (exact lawn_w (by assumption)))
  · (refine (?_ : W _ (Code.loop _) _ _))
    (refine W.loopM [1, 4, 8, 9, 13] [1] [21, 22] (fun ((x, o) : (Nat) × (List Cel)) => (W0 - x : Nat)) (fun ((x, o) : (Nat) × (List Cel)) => (x ≤ W0 ∧ o = cellsTo W0 (y * W0 + x) : Prop)) (fun z : (Nat) × (List Cel) => match z with | (x, o) => [(3, .a (.sl 6 0 o.length 2)), (14, .a (.d (.s (.int .i8 (x : Nat)))))]) (fun z : (Nat) × (List Cel) => match z with | (x, o) => [(6, .flat false (encC o))]) (0, out) (⟨by omega, by rw [ho]; rfl⟩) ⟨rfl, rfl, trivial⟩ ⟨rfl, trivial⟩ ⟨np, np, trivial⟩ ?_)
    rintro ⟨x, o⟩ σ hP hN; dsimp only [setL, putL] at hP ⊢; obtain ⟨n21, hN⟩ := hN; obtain ⟨n22, hN⟩ := hN
    obtain ⟨hx, ho2⟩ := hP
    have hl := hbb y x (by omega) hx
    rw [← ho2] at hl
    repeat' first | ((with_reducible apply WR.mv); exact rfl; exact rfl) | (with_reducible first | apply WR.nil | refine andThen_n ?_ | refine andThen_x ?_ | refine inB_n ?_ | refine inB_x ?_ | refine W.seq ?_ | refine W.region ?_ | refine W.skip ?_ | refine W.exit ?_ | refine W.block ?_) | ((with_reducible apply W.condT); exact rfl) | ((with_reducible apply W.condF); exact rfl) | (intro hb; try (exfalso; omega)) | ((with_reducible first | apply WR.lss | apply WR.bC); iterate 3 exact rfl) | ((with_reducible apply WR.ad); (iterate 3 exact rfl); (first | assumption | exact i8_in _ (by omega))) | ((with_reducible apply WR.bs1); exact rfl; exact rfl; (assumption)) | ((with_reducible apply WR.apC); (iterate 4 exact rfl); omega)
    · (refine W.nxt (x + 1, o ++ [((x : Int), (y : Int))]) (by first | omega | (dsimp only; omega)) ?_ ⟨rfl, rfl, trivial⟩ ⟨rfl, trivial⟩ ⟨rfl, rfl, rfl, rfl, rfl, trivial⟩ ⟨rfl, trivial⟩ ⟨np, np, trivial⟩); (try dsimp only)
      exact ⟨by omega, by rw [ho2, cellsTo_succ (by omega)]⟩
    · (refine W.nxt (y + 1, o) (by first | omega | (dsimp only; omega)) ?_ ⟨rfl, rfl, trivial⟩ ⟨rfl, trivial⟩ ⟨rfl, rfl, trivial⟩ ⟨rfl, trivial⟩ ⟨np, np, trivial⟩); (try dsimp only)
      exact ⟨by omega, by rw [ho2, show x = W0 by omega, Nat.succ_mul]⟩
  · rw [ho, show y = H0 by omega]
    unfold allC
    rw [Int.toNat_natCast, Int.toNat_natCast, Nat.mul_comm]; rfl
theorem l01All_gives (l : IsLawn w h g cs) (hs : 0 ≤ w ∧ w ≤ 10 ∧ 0 ≤ h ∧ h ≤ 10) : Gives G 60 [ar cs] ⟨[.own (allC w h).length 2 (encC (allC w h))], []⟩ := by
  obtain ⟨W0, rfl⟩ : ∃ W0 : Nat, w = W0 := ⟨w.toNat, by omega⟩
  obtain ⟨H0, rfl⟩ : ∃ H0 : Nat, h = H0 := ⟨h.toNat, by omega⟩
  refine Gives.by rfl rfl (W.seq ?_)
  repeat' first | ((with_reducible apply WR.mv); exact rfl; exact rfl) | (with_reducible first | apply WR.nil | refine andThen_n ?_ | refine W.seq ?_ | refine W.region ?_ | refine W.block ?_) | ((with_reducible apply WR.bs0); exact rfl; exact rfl)
  have hbb : ∀ y x : Nat, y ≤ H0 → x ≤ W0 → (cellsTo W0 (y * W0 + x)).length ≤ 200 := fun y x h1 h2 => by
    rw [cellsTo_len]
    have := Nat.mul_le_mul h1 (Nat.le_refl W0)
    have h3 : H0 * W0 ≤ 10 * 10 := Nat.mul_le_mul (by omega) (by omega)
    omega
  (refine (?_ : W _ (Code.loop _) _ _))
  (refine W.loopM [0] [] [27, 28] (fun ((y, out) : (Nat) × (List Cel)) => (H0 - y : Nat)) (fun ((y, out) : (Nat) × (List Cel)) => (y ≤ H0 ∧ out = cellsTo W0 (y * W0) : Prop)) (fun z : (Nat) × (List Cel) => match z with | (y, out) => [(3, .a (.sl 6 0 out.length 2)), (4, .a (.d (.s (.int .i8 (y : Nat)))))]) (fun z : (Nat) × (List Cel) => match z with | (y, out) => [(6, .flat false (encC out))]) (0, []) (⟨by omega, by simp [cellsTo]⟩) ⟨rfl, rfl, trivial⟩ ⟨rfl, trivial⟩ ⟨np, np, trivial⟩ ?_)
  rintro ⟨y, out⟩ σ hP hN; dsimp only [setL, putL] at hP ⊢; obtain ⟨n27, hN⟩ := hN; obtain ⟨n28, hN⟩ := hN
  obtain ⟨hy, ho⟩ := hP
  repeat' first | ((with_reducible first | apply WR.mv | apply WR.fa | apply WR.nc); exact rfl; exact rfl) | (with_reducible first | apply WR.nil | refine andThen_n ?_ | refine andThen_x ?_ | refine inB_x ?_ | refine W.seq ?_ | refine W.region ?_ | refine W.skip ?_ | refine W.ret ?_ | refine W.exit ?_ | refine W.block ?_) | ((with_reducible apply W.condT); exact rfl) | ((with_reducible apply W.condF); exact rfl) | ((with_reducible apply Done.f); (intro hh hh2; exact (nomatch hh2)); (focus ((repeat' first | exact all_nil | apply all_cons | exact res_tmp rfl); done)); (focus ((repeat' first | exact all_nil | apply all_cons | exact retOf_o rfl rfl (by first | exact encC_length _)); done)); exact rfl; (focus ((repeat' first | exact outs_nil | apply outs_d); done))) | (intro hb; try (exfalso; omega)) | ((with_reducible apply WR.lss); iterate 3 exact rfl) | ((with_reducible apply WR.ldd); exact rfl; exact rfl; (exact lawn_h (by assumption)))
  · (refine (?_ : W _ (Code.loop _) _ _))
    (refine W.loopM [0, 4] [] [27, 28] (fun ((x, o) : (Nat) × (List Cel)) => (W0 - x : Nat)) (fun ((x, o) : (Nat) × (List Cel)) => (x ≤ W0 ∧ o = cellsTo W0 (y * W0 + x) : Prop)) (fun z : (Nat) × (List Cel) => match z with | (x, o) => [(3, .a (.sl 6 0 o.length 2)), (5, .a (.d (.s (.int .i8 (x : Nat)))))]) (fun z : (Nat) × (List Cel) => match z with | (x, o) => [(6, .flat false (encC o))]) (0, out) (⟨by omega, by rw [ho]; rfl⟩) ⟨rfl, rfl, trivial⟩ ⟨rfl, trivial⟩ ⟨np, np, trivial⟩ ?_)
    rintro ⟨x, o⟩ σ hP hN; dsimp only [setL, putL] at hP ⊢; obtain ⟨n27, hN⟩ := hN; obtain ⟨n28, hN⟩ := hN
    obtain ⟨hx, ho2⟩ := hP
    have hl := hbb y x (by omega) hx
    rw [← ho2] at hl
    repeat' first | ((with_reducible first | apply WR.mv | apply WR.fa | apply WR.nc); exact rfl; exact rfl) | (with_reducible first | apply WR.nil | refine andThen_n ?_ | refine andThen_x ?_ | refine inB_n ?_ | refine inB_x ?_ | refine W.seq ?_ | refine W.region ?_ | refine W.skip ?_ | refine W.exit ?_ | refine W.block ?_) | ((with_reducible apply W.condT); exact rfl) | ((with_reducible apply W.condF); exact rfl) | (intro hb; try (exfalso; omega)) | ((with_reducible first | apply WR.lss | apply WR.bC); iterate 3 exact rfl) | ((with_reducible apply WR.ad); (iterate 3 exact rfl); (first | assumption | exact i8_in _ (by omega))) | ((with_reducible apply WR.ldd); exact rfl; exact rfl; (exact lawn_w (by assumption))) | ((with_reducible apply WR.bs1); exact rfl; exact rfl; (assumption)) | ((with_reducible apply WR.apC); (iterate 4 exact rfl); omega)
    · (refine W.nxt (x + 1, o ++ [((x : Int), (y : Int))]) (by first | omega | (dsimp only; omega)) ?_ ⟨rfl, rfl, trivial⟩ ⟨rfl, trivial⟩ ⟨rfl, rfl, trivial⟩ trivial ⟨np, np, trivial⟩); (try dsimp only)
      exact ⟨by omega, by rw [ho2, cellsTo_succ (by omega)]⟩
    · (refine W.nxt (y + 1, o) (by first | omega | (dsimp only; omega)) ?_ ⟨rfl, rfl, trivial⟩ ⟨rfl, trivial⟩ ⟨rfl, trivial⟩ trivial ⟨np, np, trivial⟩); (try dsimp only)
      exact ⟨by omega, by rw [ho2, show x = W0 by omega, Nat.succ_mul]⟩
  · rw [ho, show y = H0 by omega]
    unfold allC
    rw [Int.toNat_natCast, Int.toNat_natCast, Nat.mul_comm]; rfl
theorem allC_len (hs : w ≤ 10 ∧ h ≤ 10) : (allC w h).length ≤ 100 := by
  rw [allC, cellsTo_len]
  have h3 : w.toNat * h.toNat ≤ 10 * 10 := Nat.mul_le_mul (by omega) (by omega)
  omega
theorem allC_mem {c : Cel} (hc : c ∈ allC w h) : Has w h c.1 c.2 := by
  unfold allC cellsTo at hc
  rw [List.mem_map] at hc
  obtain ⟨i, hi, rfl⟩ := hc
  rw [List.mem_range] at hi
  have hW : 0 < w.toNat := Nat.pos_of_ne_zero fun e => by rw [e] at hi; simp at hi
  have h1 := Nat.mod_lt i hW
  have h2 : i / w.toNat < h.toNat := Nat.div_lt_of_lt_mul hi
  generalize i / w.toNat = a at h1 h2 ⊢
  generalize i % w.toNat = b at h1 h2 ⊢
  simp only [Has]
  omega
abbrev ix (c : Cel) : Nat := 10 * c.2.toNat + c.1.toNat
def ofKind (w h : Int) (g : Nat → Int) (k : Int) : List Cel := (allC w h).filter fun c => decide (g (ix c) = k)
theorem l01Cells_gives (l : IsLawn w h g cs) (k : Int) (hs : 0 ≤ w ∧ w ≤ 10 ∧ 0 ≤ h ∧ h ≤ 10) : Gives G 29 [ar cs, ai .i64 k] ⟨[.own (ofKind w h g k).length 2 (encC (ofKind w h g k))], []⟩ := by
  have hal := allC_len (w := w) (h := h) (by omega)
  have hmem := fun c => allC_mem (w := w) (h := h) (c := c)
  have hof : ofKind w h g k = (allC w h).filter fun c => decide (g (ix c) = k) := rfl
  generalize ofKind w h g k = R at hof ⊢
  refine Gives.by rfl rfl (W.seq ?_)
  repeat' first | ((with_reducible apply WR.c_o (f := 60) (fn := Code.f60)); (iterate 3 exact rfl); exact rfl; (focus ((repeat' first | exact args_nil | apply args_d | exact toD_d rfl | exact rfl); done)); exact l01All_gives (by assumption) (by omega); exact rfl) | ((with_reducible apply WR.mv); exact rfl; exact rfl) | (with_reducible first | apply WR.nil | refine andThen_n ?_ | refine W.seq ?_ | refine W.region ?_ | refine W.block ?_) | ((with_reducible apply WR.bs0); exact rfl; exact rfl)
  generalize allC w h = A at hal hmem hof
  (refine (?_ : W _ (Code.loop _) _ _))
  (refine W.loopM [0, 1, 6] [10] [30, 31] (fun ((i, out) : (Nat) × (List Cel)) => (A.length - i : Nat)) (fun ((i, out) : (Nat) × (List Cel)) => (i ≤ A.length ∧ out.length ≤ 100 ∧ out = (A.take i).filter fun c => decide (g (ix c) = k) : Prop)) (fun z : (Nat) × (List Cel) => match z with | (i, out) => [(5, .a (.sl 8 0 out.length 2)), (7, .a (.d (.s (.int .i64 (i : Nat)))))]) (fun z : (Nat) × (List Cel) => match z with | (i, out) => [(8, .flat false (encC out))]) (0, []) (⟨by omega, by simp, by simp⟩) ⟨rfl, rfl, trivial⟩ ⟨rfl, trivial⟩ ⟨np, np, trivial⟩ ?_)
  rintro ⟨i, out⟩ σ hP hN; dsimp only [setL, putL] at hP ⊢; obtain ⟨n30, hN⟩ := hN; obtain ⟨n31, hN⟩ := hN
  obtain ⟨hi, hl, ho⟩ := hP
  repeat' first | ((with_reducible first | apply WR.mv | apply WR.le); exact rfl; exact rfl) | (with_reducible first | apply WR.nil | refine andThen_n ?_ | refine andThen_x ?_ | refine inB_x ?_ | refine W.seq ?_ | refine W.region ?_ | refine W.skip ?_ | refine W.ret ?_ | refine W.exit ?_ | refine W.block ?_) | ((with_reducible apply W.condT); exact rfl) | ((with_reducible apply W.condF); exact rfl) | ((with_reducible apply Done.f); (intro hh hh2; exact (nomatch hh2)); (focus ((repeat' first | exact all_nil | apply all_cons | exact res_tmp rfl | exact rfl); done)); (focus ((repeat' first | exact all_nil | apply all_cons | exact retOf_o rfl rfl (by first | exact encC_length _ | exact rfl) | exact rfl); done)); exact rfl; (focus ((repeat' first | exact outs_nil | apply outs_d | exact rfl); done))) | (intro hb; try (exfalso; omega)) | ((with_reducible apply WR.isn); (iterate 3 exact rfl); omega) | ((with_reducible apply WR.ld); (iterate 3 exact rfl); (first | exact ldC (by first | omega))) | ((with_reducible apply WR.lss); iterate 3 exact rfl)
  · have hc := hmem _ (gC_mem (l := A) (k := i) (by omega))
    have hst := filter_snoc (p := fun c => decide (g (ix c) = k)) (gC_get (l := A) (k := i) (by omega))
    have hlen : ((A.take (i + 1)).filter fun c => decide (g (ix c) = k)).length ≤ 100 := Nat.le_trans (List.length_filter_le ..) (by rw [List.length_take]; omega)
    rw [← ho] at hst
    repeat' first | ((with_reducible apply WR.c_s (f := 61) (fn := Code.f61)); (iterate 3 exact rfl); exact rfl; (focus ((repeat' first | exact args_nil | apply args_d | exact toD_d rfl | exact rfl); done)); exact l01At_gives (by assumption) _ _ (by omega)) | ((with_reducible apply WR.mv); exact rfl; exact rfl) | (with_reducible first | apply WR.nil | refine andThen_n ?_ | refine inB_n ?_ | refine W.region ?_ | refine W.skip ?_) | ((with_reducible apply W.condT); exact rfl) | ((with_reducible apply W.condF); exact rfl) | (intro hb; try (exfalso; omega)) | ((with_reducible apply WR.isn); (iterate 3 exact rfl); omega) | ((with_reducible apply WR.ld); (iterate 3 exact rfl); (first | exact ldC (by first | omega))) | ((with_reducible apply WR.bs1); exact rfl; exact rfl; (first | exact rfl | assumption)) | ((with_reducible apply WR.eql); iterate 3 exact rfl) | ((with_reducible apply WR.ad); (iterate 3 exact rfl); (first | exact i64_in _ (by omega) | assumption)) | ((with_reducible apply WR.apC); (iterate 4 exact rfl); omega)
    · rw [if_pos (by simpa using (by assumption : g (10 * (gC A i).2.toNat + (gC A i).1.toNat) = k))] at hst
      (refine W.nxt (i + 1, out ++ [gC A i]) (by first | omega | (dsimp only; omega)) ?_ ⟨rfl, rfl, trivial⟩ ⟨rfl, trivial⟩ ⟨rfl, rfl, rfl, trivial⟩ ⟨rfl, trivial⟩ ⟨np, np, trivial⟩); (try dsimp only)
      exact ⟨by omega, by rw [← hst]; exact hlen, hst.symm⟩
    · rw [if_neg (by simpa using (by assumption : ¬ g (10 * (gC A i).2.toNat + (gC A i).1.toNat) = k)), List.append_nil] at hst
      (refine W.nxt (i + 1, out) (by first | omega | (dsimp only; omega)) ?_ ⟨rfl, rfl, trivial⟩ ⟨rfl, trivial⟩ ⟨rfl, rfl, rfl, trivial⟩ ⟨rfl, trivial⟩ ⟨np, np, trivial⟩); (try dsimp only)
      exact ⟨by omega, by omega, hst.symm⟩
  · rw [hof, ho, List.take_of_length_le (by omega)]; rfl
def Opn (w h : Int) (g : Nat → Int) (x y : Int) : Prop := Has w h x y ∧ (g (10 * y.toNat + x.toNat) = 0 ∨ g (10 * y.toNat + x.toNat) = 3)
instance (w h : Int) (g : Nat → Int) (x y : Int) : Decidable (Opn w h g x y) := inferInstanceAs (Decidable (_ ∧ _))
theorem open_gives (l : IsLawn w h g cs) (x y : Int) (hs : (w ≤ 10 ∧ h ≤ 10) ∨ (x < 10 ∧ y < 10)) : Gives G 77 [aa cs, ac x y] (rb (decide (Opn w h g x y))) := by
  refine Gives.by rfl rfl (W.seq ?_)
  repeat' first | ((with_reducible apply WR.c_p (f := 65) (fn := Code.f65)); (iterate 3 exact rfl); exact rfl; (focus ((repeat' first | exact args_nil | apply args_d | exact toD_d rfl | exact all_nil | apply all_cons | exact rfl); done)); exact is_gives (by assumption) _ _ _ (by omega)) | ((with_reducible apply WR.ld); (iterate 3 exact rfl); (first | exact ld2 | exact loadC_all (IsLawn.len (by assumption)))) | ((with_reducible first | apply WR.mv | apply WR.pk); exact rfl; exact rfl) | (with_reducible first | apply WR.nil | refine andThen_n ?_ | refine W.seq ?_ | refine W.region ?_ | refine W.ret ?_) | ((with_reducible apply Done.f); (intro hh hh2; exact (nomatch hh2)); (focus ((repeat' first | exact all_nil | apply all_cons | exact res_tmp rfl | exact rfl); done)); (focus ((repeat' first | exact all_nil | apply all_cons | exact retOf_s rfl | exact rfl); done)); exact rfl; (focus ((repeat' first | exact outs_nil | apply outs_d | exact rfl); done))) | (intro hb; try (exfalso; omega)) | ((with_reducible apply WR.bx); exact rfl; exact rfl; exact (by first | exact IsLawn.len (by assumption) | exact rfl); exact rfl) | ((with_reducible apply WR.off); exact rfl)
  all_goals first
    | exact rb_t (by simp only [Is, Opn, Has] at *; omega)
    | exact rb_f (by simp only [Is, Opn, Has] at *; omega)
theorem l01Open_gives (l : IsLawn w h g cs) (x y : Int) (hb : 0 ≤ x ∧ x < 10 ∧ 0 ≤ y ∧ y < 10) : Gives G 72 [ar cs, ac x y] (rb (decide (g (10 * y.toNat + x.toNat) = 0 ∨ g (10 * y.toNat + x.toNat) = 3))) := by
  refine Gives.by rfl rfl (W.seq ?_)
  repeat' first | ((with_reducible apply WR.c_s (f := 61) (fn := Code.f61)); (iterate 3 exact rfl); exact rfl; (focus ((repeat' first | exact args_nil | apply args_d | exact toD_d rfl | exact all_nil | apply all_cons | exact rfl); done)); exact l01At_gives (by assumption) _ _ (by omega)) | ((with_reducible first | apply WR.mv | apply WR.pk); exact rfl; exact rfl) | (with_reducible first | apply WR.nil | refine andThen_n ?_ | refine W.seq ?_ | refine W.region ?_ | refine W.ret ?_) | ((with_reducible apply Done.f); (intro hh hh2; exact (nomatch hh2)); (focus ((repeat' first | exact all_nil | apply all_cons | exact res_tmp rfl | exact rfl); done)); (focus ((repeat' first | exact all_nil | apply all_cons | exact retOf_s rfl | exact rfl); done)); exact rfl; (focus ((repeat' first | exact outs_nil | apply outs_d | exact rfl); done))) | (intro hb; try (exfalso; omega)) | ((with_reducible apply WR.off); exact rfl) | ((with_reducible apply WR.eql); iterate 3 exact rfl) | ((with_reducible apply WR.ld); (iterate 3 exact rfl); (exact ld2)) | ((with_reducible apply WR.bx); exact rfl; exact rfl; exact (by first | exact rfl); exact rfl)
  all_goals first
    | exact rb_t (by omega)
    | exact rb_f (by omega)
theorem openNot_gives (l : IsLawn w h g cs) (x y : Int) (hs : w ≤ 10 ∧ h ≤ 10) : Gives G 76 [ac x y, ar cs] (rb (decide (¬ Opn w h g x y))) := by
  refine Gives.by rfl rfl (W.seq ?_)
  repeat' first | ((with_reducible apply WR.c_p (f := 77) (fn := Code.f77)); (iterate 3 exact rfl); exact rfl; (focus ((repeat' first | exact args_nil | apply args_d | exact toD_d rfl | exact all_nil | apply all_cons | exact rfl); done)); exact open_gives (by assumption) _ _ (by omega)) | (with_reducible first | apply WR.nil | refine andThen_n ?_ | refine W.seq ?_ | refine W.region ?_ | refine W.ret ?_) | ((with_reducible apply Done.f); (intro hh hh2; exact (nomatch hh2)); (focus ((repeat' first | exact all_nil | apply all_cons | exact res_tmp rfl | exact rfl); done)); (focus ((repeat' first | exact all_nil | apply all_cons | exact retOf_s rfl | exact rfl); done)); exact rfl; (focus ((repeat' first | exact outs_nil | apply outs_d | exact rfl); done))) | (intro hb; try (exfalso; omega)) | ((with_reducible first | apply WR.mv | apply WR.un); exact rfl; exact rfl) | ((with_reducible apply WR.ld); (iterate 3 exact rfl); (first | exact ld2 | exact loadC_all (IsLawn.len (by assumption)))) | ((with_reducible apply WR.ldr); exact rfl; exact rfl; (first | exact ld2 | exact loadC_all (IsLawn.len (by assumption)))) | ((with_reducible apply WR.bx); exact rfl; exact rfl; exact (by first | exact rfl); exact rfl)
  · exact rb_f (fun h => h (by assumption))
  · exact rb_t (by assumption)
theorem bc_merge {ok fine a : Prop} {d1 : Decidable ok} {d2 : Decidable fine} {d3 : Decidable a} (h : ¬ belowCode ok fine True = 0) : belowCode ok fine True = belowCode ok fine a := by
  by_cases h1 : ok
  · by_cases h2 : fine
    · exact absurd (belowCode_zero.2 ⟨h1, h2, trivial⟩) h
    · simp only [belowCode, if_pos h1, if_neg h2]
  · simp only [belowCode, if_neg h1]
theorem openCode_gives (l : IsLawn w h g cs) (ls : List Cel) (hl : ls.length ≤ 1000) : Gives G 37 [aa cs, asl ls] (ri .i64 (belowCode (LawnOk w h g) (∀ c ∈ ls, Has w h c.1 c.2) (∀ c ∈ ls, Opn w h g c.1 c.2))) := by
  refine Gives.by rfl rfl (W.seq ?_)
  repeat' first | ((with_reducible apply WR.c_s (f := 74) (fn := Code.f74)); (iterate 3 exact rfl); exact rfl; (focus ((repeat' first | exact args_nil | apply args_d | exact toD_d rfl | exact all_nil | apply all_cons | exact rfl); done)); exact cellsCode_gives (by assumption) ls hl) | ((with_reducible first | apply WR.mv | apply WR.mf | apply WR.pk); exact rfl; exact rfl) | (with_reducible first | apply WR.nil | refine andThen_n ?_ | refine W.seq ?_ | refine W.region ?_ | refine W.skip ?_ | refine W.ret ?_) | ((with_reducible apply W.condF); exact rfl) | ((with_reducible apply Done.f); (intro hh hh2; exact (nomatch hh2)); (focus ((repeat' first | exact all_nil | apply all_cons | exact res_tmp rfl | exact rfl); done)); (focus ((repeat' first | exact all_nil | apply all_cons | exact retOf_s rfl | exact rfl); done)); exact rfl; (focus ((repeat' first | exact outs_nil | apply outs_d | exact rfl); done))) | (intro hb; try (exfalso; omega)) | ((with_reducible apply WR.off); exact rfl) | ((with_reducible apply WR.eql); iterate 3 exact rfl) | ((with_reducible apply WR.bx); exact rfl; exact rfl; exact (by first | exact IsLawn.len (by assumption) | exact rfl); exact rfl) | ((with_reducible apply WR.ld); (iterate 3 exact rfl); (exact loadC_all (IsLawn.len (by assumption))))
  · have h0 := belowCode_zero.1 (by assumption : belowCode _ _ _ = 0)
    have hs : w ≤ 10 ∧ h ≤ 10 := ⟨h0.1.1.2, h0.1.2.1.2⟩
    repeat' first | ((with_reducible apply WR.c_p (f := 75) (fn := Code.f75)); (iterate 3 exact rfl); exact rfl; (focus ((repeat' first | exact args_nil | apply args_d | exact toD_d rfl | exact toD_ptr rfl rfl | (apply toD_clo; exact rfl) | exact all_nil | apply all_cons | exact rfl); done)); exact containsFunc_gives (fun c => ¬ Opn w h g c.1 c.2) ls hl rfl rfl (fun c _ => openNot_gives l _ _ hs)) | ((with_reducible first | apply WR.mv | apply WR.pk); exact rfl; exact rfl) | (with_reducible first | apply WR.nil | refine andThen_n ?_ | refine W.seq ?_ | refine W.region ?_ | refine W.skip ?_ | refine W.ret ?_) | ((with_reducible apply W.condT); exact rfl) | ((with_reducible apply W.condF); exact rfl) | ((with_reducible apply Done.f); (intro hh hh2; exact (nomatch hh2)); (focus ((repeat' first | exact all_nil | apply all_cons | exact res_tmp rfl | exact rfl); done)); (focus ((repeat' first | exact all_nil | apply all_cons | exact retOf_s rfl | exact rfl); done)); exact rfl; (focus ((repeat' first | exact outs_nil | apply outs_d | exact rfl); done))) | (intro hb; try (exfalso; omega))
    · exact bc4 h0.1 h0.2.1 (ex_not (by assumption))
    · refine ri_congr ?_
      have h2 := not_ex (by assumption)
      simp only [belowCode, if_pos h0.1, if_pos h0.2.1, if_pos h2, if_true]
  · exact ri_congr (bc_merge (by assumption))
theorem l01Told_gives (l : IsLawn w h g cs) (b : Bool) : Gives G 84 [ar cs, ab b] (ri .i64 (belowCode (LawnOk w h g) (b = true) True)) := by
  refine Gives.by rfl rfl (W.seq ?_)
  cases b
  all_goals
    repeat' first | ((with_reducible apply WR.c_p (f := 28) (fn := Code.f28)); (iterate 3 exact rfl); exact rfl; (focus ((repeat' first | exact args_nil | apply args_d | exact toD_d rfl | exact all_nil | apply all_cons | exact rfl); done)); exact l01Ok_gives (by assumption)) | ((with_reducible first | apply WR.mv | apply WR.un); exact rfl; exact rfl) | (with_reducible first | apply WR.nil | refine andThen_n ?_ | refine andThen_r ?_ | refine W.seq ?_ | refine W.region ?_ | refine W.skip ?_ | refine W.ret ?_) | ((with_reducible apply W.condT); exact rfl) | ((with_reducible apply W.condF); exact rfl) | ((with_reducible apply Done.f); (intro hh hh2; exact (nomatch hh2)); (focus ((repeat' first | exact all_nil | apply all_cons | exact res_tmp rfl | exact rfl); done)); (focus ((repeat' first | exact all_nil | apply all_cons | exact retOf_s rfl | exact rfl); done)); exact rfl; (focus ((repeat' first | exact outs_nil | apply outs_d | exact rfl); done))) | (intro hb; try (exfalso; omega))
    all_goals first | exact bc1 (by assumption) | exact bc2 (by assumption) (by decide) | exact bc0 (by assumption) (by decide) trivial
end Go.DM
