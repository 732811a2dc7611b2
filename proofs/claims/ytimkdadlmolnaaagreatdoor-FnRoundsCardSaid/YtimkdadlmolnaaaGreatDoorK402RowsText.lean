/- All cells of a lawn, those for which something holds; open cells; codes. -/
import Derived.Test.YtimkdadlmolnaaaGreatDoorK402Rule2
import Derived.Test.YtimkdadlmolnaaaGreatDoorK402Near
import Derived.Test.YtimkdadlmolnaaaGreatDoorK402Beside
import Derived.Test.YtimkdadlmolnaaaGreatDoorK402SplitK
set_option linter.unusedSectionVars false
set_option linter.unusedSimpArgs false
set_option linter.unusedVariables false
set_option maxHeartbeats 4000000
namespace Go.DM
variable [Tok]
open Go.IntWalk
variable {w h : Int} {g : Nat → Int} {cs : List S}
def cellsTo (W n : Nat) : List Cel := (List.range n).map fun i => (((i % W : Nat) : Int), ((i / W : Nat) : Int))
def allC (w h : Int) : List Cel := cellsTo w.toNat (w.toNat * h.toNat)
theorem cellsTo_len (W n : Nat) : (cellsTo W n).length = n := by simp [cellsTo]
theorem cellsTo_succ {W y x : Nat} (hx : x < W) : cellsTo W (y * W + (x + 1)) = cellsTo W (y * W + x) ++ [((x : Int), (y : Int))] := by
  unfold cellsTo
  rw [← Nat.add_assoc, List.range_succ, List.map_append]
  congr 1
  have h1 : (y * W + x) % W = x := by rw [Nat.add_comm, Nat.add_mul_mod_self_right, Nat.mod_eq_of_lt hx]
  have h2 : (y * W + x) / W = y := by rw [Nat.add_comm, Nat.add_mul_div_right _ _ (by omega), Nat.div_eq_of_lt hx, Nat.zero_add]
  simp only [List.map_cons, List.map_nil, h1, h2]
theorem all_gives (l : IsLawn w h g cs) (hs : 0 ≤ w ∧ w ≤ 10 ∧ 0 ≤ h ∧ h ≤ 10) : Gives G 33 [aa cs] ⟨[.own (allC w h).length 2 (encC (allC w h))], []⟩ := by
  obtain ⟨W0, rfl⟩ : ∃ W0 : Nat, w = W0 := ⟨w.toNat, by omega⟩
  obtain ⟨H0, rfl⟩ : ∃ H0 : Nat, h = H0 := ⟨h.toNat, by omega⟩
  refine Gives.by rfl rfl (W.seq ?_)
  repeat' first | ((with_reducible apply WR.mv); exact rfl; exact rfl) | ((with_reducible apply WR.nil)) | (with_reducible refine andThen_n ?_) | (with_reducible refine W.seq ?_) | (with_reducible refine W.region ?_) | (with_reducible refine W.block ?_) | ((with_reducible apply WR.ld); exact rfl; exact rfl; exact rfl; (first | exact lawn_h (by assumption))) | ((with_reducible apply WR.bs0); exact rfl; (exact rfl)) | ((with_reducible apply WR.fa); exact rfl; exact rfl) | ((with_reducible apply WR.bx); exact rfl; exact rfl; exact (by first | exact IsLawn.len (by assumption) | exact rfl); (exact rfl))
  have hbb : ∀ y x : Nat, y ≤ H0 → x ≤ W0 → (cellsTo W0 (y * W0 + x)).length ≤ 200 := fun y x h1 h2 => by
    rw [cellsTo_len]
    have := Nat.mul_le_mul h1 (Nat.le_refl W0)
    have h3 : H0 * W0 ≤ 10 * 10 := Nat.mul_le_mul (by omega) (by omega)
    omega
  (refine (?_ : W _ (Code.loop _) _ _))
  (refine W.loopM [1, 8] [1] [21, 22] (fun zz : (Nat) × (List Cel) => match zz with | (y, out) => (H0 - y : Nat)) (fun zz : (Nat) × (List Cel) => match zz with | (y, out) => (y ≤ H0 ∧ out = cellsTo W0 (y * W0) : Prop)) (fun zz : (Nat) × (List Cel) => match zz with | (y, out) => [(3, .a (.sl 6 0 out.length 2)), (9, .a (.d (.s (.int .i8 (y : Nat)))))]) (fun zz : (Nat) × (List Cel) => match zz with | (y, out) => [(6, .flat false (encC out))]) (0, []) (⟨by omega, by simp [cellsTo]⟩) ⟨rfl, rfl, trivial⟩ ⟨rfl, trivial⟩ ⟨np, np, trivial⟩ ?_)
  rintro ⟨y, out⟩ σ hP hN; dsimp only [setL, putL] at hP ⊢; obtain ⟨n21, hN⟩ := hN; obtain ⟨n22, hN⟩ := hN
  obtain ⟨hy, ho⟩ := hP
  repeat' first | ((with_reducible apply WR.mv); exact rfl; exact rfl) | ((with_reducible apply WR.nil)) | (with_reducible refine andThen_n ?_) | (with_reducible refine andThen_x ?_) | (with_reducible refine inB_x ?_) | (with_reducible refine W.seq ?_) | (with_reducible refine W.region ?_) | (with_reducible refine W.skip ?_) | (with_reducible refine W.ret ?_) | (with_reducible refine W.exit ?_) | (with_reducible refine W.block ?_) | ((with_reducible apply W.condT); exact rfl) | ((with_reducible apply W.condF); exact rfl) | ((with_reducible apply Done.f); (intro hh hh2; exact (nomatch hh2)); (focus ((repeat' first | exact all_nil | apply all_cons | exact res_tmp rfl); done)); (focus ((repeat' first | exact all_nil | apply all_cons | exact retOf_o rfl rfl (by first | exact encC_length _)); done)); exact rfl; (focus ((repeat' first | exact outs_nil | apply outs_d); done))) | (intro hb; try (exfalso; omega)) | ((with_reducible apply WR.lss); exact rfl; exact rfl; exact rfl) | ((with_reducible apply WR.ld); exact rfl; exact rfl; exact rfl; (first | exact lawn_w (by assumption))) | ((with_reducible apply WR.fa); exact rfl; exact rfl)
  · (refine (?_ : W _ (Code.loop _) _ _))
    (refine W.loopM [1, 4, 8, 9, 13] [1] [21, 22] (fun zz : (Nat) × (List Cel) => match zz with | (x, o) => (W0 - x : Nat)) (fun zz : (Nat) × (List Cel) => match zz with | (x, o) => (x ≤ W0 ∧ o = cellsTo W0 (y * W0 + x) : Prop)) (fun zz : (Nat) × (List Cel) => match zz with | (x, o) => [(3, .a (.sl 6 0 o.length 2)), (14, .a (.d (.s (.int .i8 (x : Nat)))))]) (fun zz : (Nat) × (List Cel) => match zz with | (x, o) => [(6, .flat false (encC o))]) (0, out) (⟨by omega, by rw [ho]; rfl⟩) ⟨rfl, rfl, trivial⟩ ⟨rfl, trivial⟩ ⟨np, np, trivial⟩ ?_)
    rintro ⟨x, o⟩ σ hP hN; dsimp only [setL, putL] at hP ⊢; obtain ⟨n21, hN⟩ := hN; obtain ⟨n22, hN⟩ := hN
    obtain ⟨hx, ho2⟩ := hP
    have hl := hbb y x (by omega) hx
    rw [← ho2] at hl
    repeat' first | ((with_reducible apply WR.mv); exact rfl; exact rfl) | ((with_reducible apply WR.nil)) | (with_reducible refine andThen_n ?_) | (with_reducible refine andThen_x ?_) | (with_reducible refine inB_n ?_) | (with_reducible refine inB_x ?_) | (with_reducible refine W.seq ?_) | (with_reducible refine W.region ?_) | (with_reducible refine W.skip ?_) | (with_reducible refine W.exit ?_) | (with_reducible refine W.block ?_) | ((with_reducible apply W.condT); exact rfl) | ((with_reducible apply W.condF); exact rfl) | (intro hb; try (exfalso; omega)) | ((with_reducible apply WR.lss); exact rfl; exact rfl; exact rfl) | ((with_reducible apply WR.ad); exact rfl; exact rfl; exact rfl; (first | assumption | exact i8_in _ (by omega))) | ((with_reducible apply WR.bs1); exact rfl; exact rfl; (first | assumption)) | ((with_reducible apply WR.bC); exact rfl; exact rfl; exact rfl) | ((with_reducible apply WR.apC); exact rfl; exact rfl; exact rfl; exact rfl; omega)
    · (refine W.nxt (x + 1, o ++ [((x : Int), (y : Int))]) (by first | omega | (dsimp only; omega)) ?_ ⟨rfl, rfl, trivial⟩ ⟨rfl, trivial⟩ ⟨rfl, rfl, rfl, rfl, rfl, trivial⟩ ⟨rfl, trivial⟩ ⟨np, np, trivial⟩); (try dsimp only)
      exact ⟨by omega, by rw [ho2, cellsTo_succ (by omega)]⟩
    · (refine W.nxt (y + 1, o) (by first | omega | (dsimp only; omega)) ?_ ⟨rfl, rfl, trivial⟩ ⟨rfl, trivial⟩ ⟨rfl, rfl, trivial⟩ ⟨rfl, trivial⟩ ⟨np, np, trivial⟩); (try dsimp only)
      exact ⟨by omega, by rw [ho2, show x = W0 by omega, Nat.succ_mul]⟩
  · rw [ho, show y = H0 by omega]
    unfold allC
    rw [Int.toNat_natCast, Int.toNat_natCast, Nat.mul_comm]; rfl
theorem l01All_gives (l : IsLawn w h g cs) (hs : 0 ≤ w ∧ w ≤ 10 ∧ 0 ≤ h ∧ h ≤ 10) : Gives G 60 [ar cs] ⟨[.own (allC w h).length 2 (encC (allC w h))], []⟩ := by
  obtain ⟨W0, rfl⟩ : ∃ W0 : Nat, w = W0 := ⟨w.toNat, by omega⟩
  obtain ⟨H0, rfl⟩ : ∃ H0 : Nat, h = H0 := ⟨h.toNat, by omega⟩
  refine Gives.by rfl rfl (W.seq ?_)
  repeat' first | ((with_reducible apply WR.mv); exact rfl; exact rfl) | ((with_reducible apply WR.nil)) | (with_reducible refine andThen_n ?_) | (with_reducible refine W.seq ?_) | (with_reducible refine W.region ?_) | (with_reducible refine W.block ?_) | ((with_reducible apply WR.bs0); exact rfl; (exact rfl))
  have hbb : ∀ y x : Nat, y ≤ H0 → x ≤ W0 → (cellsTo W0 (y * W0 + x)).length ≤ 200 := fun y x h1 h2 => by
    rw [cellsTo_len]
    have := Nat.mul_le_mul h1 (Nat.le_refl W0)
    have h3 : H0 * W0 ≤ 10 * 10 := Nat.mul_le_mul (by omega) (by omega)
    omega
  (refine (?_ : W _ (Code.loop _) _ _))
  (refine W.loopM [0] [] [27, 28] (fun zz : (Nat) × (List Cel) => match zz with | (y, out) => (H0 - y : Nat)) (fun zz : (Nat) × (List Cel) => match zz with | (y, out) => (y ≤ H0 ∧ out = cellsTo W0 (y * W0) : Prop)) (fun zz : (Nat) × (List Cel) => match zz with | (y, out) => [(3, .a (.sl 6 0 out.length 2)), (4, .a (.d (.s (.int .i8 (y : Nat)))))]) (fun zz : (Nat) × (List Cel) => match zz with | (y, out) => [(6, .flat false (encC out))]) (0, []) (⟨by omega, by simp [cellsTo]⟩) ⟨rfl, rfl, trivial⟩ ⟨rfl, trivial⟩ ⟨np, np, trivial⟩ ?_)
  rintro ⟨y, out⟩ σ hP hN; dsimp only [setL, putL] at hP ⊢; obtain ⟨n27, hN⟩ := hN; obtain ⟨n28, hN⟩ := hN
  obtain ⟨hy, ho⟩ := hP
  repeat' first | ((with_reducible apply WR.mv); exact rfl; exact rfl) | ((with_reducible apply WR.nil)) | (with_reducible refine andThen_n ?_) | (with_reducible refine andThen_x ?_) | (with_reducible refine inB_x ?_) | (with_reducible refine W.seq ?_) | (with_reducible refine W.region ?_) | (with_reducible refine W.skip ?_) | (with_reducible refine W.ret ?_) | (with_reducible refine W.exit ?_) | (with_reducible refine W.block ?_) | ((with_reducible apply W.condT); exact rfl) | ((with_reducible apply W.condF); exact rfl) | ((with_reducible apply Done.f); (intro hh hh2; exact (nomatch hh2)); (focus ((repeat' first | exact all_nil | apply all_cons | exact res_tmp rfl); done)); (focus ((repeat' first | exact all_nil | apply all_cons | exact retOf_o rfl rfl (by first | exact encC_length _)); done)); exact rfl; (focus ((repeat' first | exact outs_nil | apply outs_d); done))) | (intro hb; try (exfalso; omega)) | ((with_reducible apply WR.lss); exact rfl; exact rfl; exact rfl) | ((with_reducible apply WR.ldd); exact rfl; exact rfl; (first | exact lawn_h (by assumption))) | ((with_reducible apply WR.fa); exact rfl; exact rfl) | ((with_reducible apply WR.nc); exact rfl; exact rfl)
  · (refine (?_ : W _ (Code.loop _) _ _))
    (refine W.loopM [0, 4] [] [27, 28] (fun zz : (Nat) × (List Cel) => match zz with | (x, o) => (W0 - x : Nat)) (fun zz : (Nat) × (List Cel) => match zz with | (x, o) => (x ≤ W0 ∧ o = cellsTo W0 (y * W0 + x) : Prop)) (fun zz : (Nat) × (List Cel) => match zz with | (x, o) => [(3, .a (.sl 6 0 o.length 2)), (5, .a (.d (.s (.int .i8 (x : Nat)))))]) (fun zz : (Nat) × (List Cel) => match zz with | (x, o) => [(6, .flat false (encC o))]) (0, out) (⟨by omega, by rw [ho]; rfl⟩) ⟨rfl, rfl, trivial⟩ ⟨rfl, trivial⟩ ⟨np, np, trivial⟩ ?_)
    rintro ⟨x, o⟩ σ hP hN; dsimp only [setL, putL] at hP ⊢; obtain ⟨n27, hN⟩ := hN; obtain ⟨n28, hN⟩ := hN
    obtain ⟨hx, ho2⟩ := hP
    have hl := hbb y x (by omega) hx
    rw [← ho2] at hl
    repeat' first | ((with_reducible apply WR.mv); exact rfl; exact rfl) | ((with_reducible apply WR.nil)) | (with_reducible refine andThen_n ?_) | (with_reducible refine andThen_x ?_) | (with_reducible refine inB_n ?_) | (with_reducible refine inB_x ?_) | (with_reducible refine W.seq ?_) | (with_reducible refine W.region ?_) | (with_reducible refine W.skip ?_) | (with_reducible refine W.exit ?_) | (with_reducible refine W.block ?_) | ((with_reducible apply W.condT); exact rfl) | ((with_reducible apply W.condF); exact rfl) | (intro hb; try (exfalso; omega)) | ((with_reducible apply WR.lss); exact rfl; exact rfl; exact rfl) | ((with_reducible apply WR.ad); exact rfl; exact rfl; exact rfl; (first | assumption | exact i8_in _ (by omega))) | ((with_reducible apply WR.ldd); exact rfl; exact rfl; (first | exact lawn_w (by assumption))) | ((with_reducible apply WR.bs1); exact rfl; exact rfl; (first | assumption)) | ((with_reducible apply WR.fa); exact rfl; exact rfl) | ((with_reducible apply WR.nc); exact rfl; exact rfl) | ((with_reducible apply WR.bC); exact rfl; exact rfl; exact rfl) | ((with_reducible apply WR.apC); exact rfl; exact rfl; exact rfl; exact rfl; omega)
    · (refine W.nxt (x + 1, o ++ [((x : Int), (y : Int))]) (by first | omega | (dsimp only; omega)) ?_ ⟨rfl, rfl, trivial⟩ ⟨rfl, trivial⟩ ⟨rfl, rfl, trivial⟩ trivial ⟨np, np, trivial⟩); (try dsimp only)
      exact ⟨by omega, by rw [ho2, cellsTo_succ (by omega)]⟩
    · (refine W.nxt (y + 1, o) (by first | omega | (dsimp only; omega)) ?_ ⟨rfl, rfl, trivial⟩ ⟨rfl, trivial⟩ ⟨rfl, trivial⟩ trivial ⟨np, np, trivial⟩); (try dsimp only)
      exact ⟨by omega, by rw [ho2, show x = W0 by omega, Nat.succ_mul]⟩
  · rw [ho, show y = H0 by omega]
    unfold allC
    rw [Int.toNat_natCast, Int.toNat_natCast, Nat.mul_comm]; rfl
theorem allC_len (hs : w ≤ 10 ∧ h ≤ 10) : (allC w h).length ≤ 100 := by
  rw [allC, cellsTo_len]
  have h3 : w.toNat * h.toNat ≤ 10 * 10 := Nat.mul_le_mul (by omega) (by omega)
  omega
theorem allC_mem {c : Cel} (hc : c ∈ allC w h) : Has w h c.1 c.2 := by
  unfold allC cellsTo at hc
  rw [List.mem_map] at hc
  obtain ⟨i, hi, rfl⟩ := hc
  rw [List.mem_range] at hi
  have hW : 0 < w.toNat := Nat.pos_of_ne_zero fun e => by rw [e] at hi; simp at hi
  have h1 := Nat.mod_lt i hW
  have h2 : i / w.toNat < h.toNat := Nat.div_lt_of_lt_mul hi
  generalize i / w.toNat = a at h1 h2 ⊢
  generalize i % w.toNat = b at h1 h2 ⊢
  simp only [Has]
  omega
abbrev ix (c : Cel) : Nat := 10 * c.2.toNat + c.1.toNat
def Opn (w h : Int) (g : Nat → Int) (x y : Int) : Prop := Has w h x y ∧ (g (10 * y.toNat + x.toNat) = 0 ∨ g (10 * y.toNat + x.toNat) = 3)
instance (w h : Int) (g : Nat → Int) (x y : Int) : Decidable (Opn w h g x y) := inferInstanceAs (Decidable (_ ∧ _))
end Go.DM

/- Those cells for which something holds; slices.Repeat; codes of cells that have to be open. -/
set_option maxHeartbeats 4000000
namespace Go.DM
variable [Tok]
open Go.IntWalk
variable {w h : Int} {g : Nat → Int} {cs : List S}
theorem thoseNot_gives {x : D} {P : Cel → Prop} [DecidablePred P] {dom : Cel → Prop} (hx : HoldsC G x P dom) (u v : Int) (hd : dom (u, v)) : Gives G 64 [ac u v, .d (.refd x)] (rb (decide (¬ P (u, v)))) := by
  refine Gives.by rfl rfl (W.seq ?_)
  repeat' first | ((with_reducible apply WR.vh hx); exact rfl; exact rfl; exact rfl; exact hd) | ((with_reducible apply WR.nil)) | (with_reducible refine andThen_n ?_) | (with_reducible refine W.seq ?_) | (with_reducible refine W.region ?_) | (with_reducible refine W.ret ?_) | ((with_reducible apply Done.f); (intro hh hh2; exact (nomatch hh2)); (focus ((repeat' first | exact all_nil | apply all_cons | exact res_tmp rfl | exact rfl); done)); (focus ((repeat' first | exact all_nil | apply all_cons | exact retOf_s rfl | exact rfl); done)); exact rfl; (focus ((repeat' first | exact outs_nil | apply outs_d | exact rfl); done))) | (intro hb; try (exfalso; omega)) | ((with_reducible apply WR.mv); exact rfl; exact rfl) | ((with_reducible apply WR.ld); exact rfl; exact rfl; exact rfl; (first | exact ld2)) | ((with_reducible apply WR.lx); exact rfl; exact rfl) | ((with_reducible apply WR.bx); exact rfl; exact rfl; exact (by first | exact rfl); (exact rfl)) | ((with_reducible apply WR.un); exact rfl; exact rfl)
  · exact rb_f (fun h => h (by assumption))
  · exact rb_t (by assumption)
def those (w h : Int) (P : Cel → Prop) [DecidablePred P] : List Cel := (allC w h).filter fun c => decide (P c)
theorem those_kept (P : Cel → Prop) [DecidablePred P] : kept (fun c => ¬ P c) (allC w h) = those w h P := by
  unfold kept those
  apply List.filter_congr
  intro c _
  simp
section
variable {dsts : Nat → Option Nat} {ops : List Oper} {Q : St → Prop} {σ : St} {gd : Option (Nat × Bool)} {l1 l2 l3 l4 : List Nat}
theorem WR.de0 {e p f : Nat} {fn : Fn} {z : D} {a b : Opd} {v : V} (P : Cel → Prop) [DecidablePred P] (l : List Cel) (hl : l.length ≤ 1000) (hf : G f = some fn) (hm : fn.muts = []) (hP : ∀ c ∈ l, Gives G f [ac c.1 c.2, .d z] (rb (decide (P c))))
    (hw : wanted dsts σ.env gd = some true) (ha : ev σ.env a = .a (.sl p 0 l.length 2)) (ho : σ.objs p = some (.flat false (encC l))) (hb : ev σ.env b = v) (hz : toDV (fun o => if [p].contains o then none else σ.objs o) depth v = some (.clo f [] [z])) (hv : mutIds [] [v] = [])
    (k : WR G dsts ops Q (set (some e) (.a (.sl p 0 (kept P l).length 2)) (put p (.flat false (encC (kept P l ++ List.replicate (l.length - (kept P l).length) (0, 0)))) σ))) : WR G dsts (⟨some e, .call 63 [a, b], gd, l1, l2, l3, l4⟩ :: ops) Q σ :=
  WR.de P l [] hl hf hm hP hw ha (by rw [ho, List.append_nil]) hb hz hv (by rw [List.append_nil]; exact k)
end
theorem those_gives (l : IsLawn w h g cs) (hs : 0 ≤ w ∧ w ≤ 10 ∧ 0 ≤ h ∧ h ≤ 10) {x : D} {P : Cel → Prop} [DecidablePred P] {dom : Cel → Prop} (hx : HoldsC G x P dom) (hd : ∀ c, Has w h c.1 c.2 → dom c) :
    Gives G 31 [aa cs, .d x] ⟨[.own (those w h P).length 2 (encC (those w h P))], []⟩ := by
  have hal := allC_len (w := w) (h := h) (by omega)
  have hmem := fun c => allC_mem (w := w) (h := h) (c := c)
  have hk := those_kept (w := w) (h := h) P
  obtain ⟨f, fn, pre, post, rfl, h1, h2, h3⟩ := id hx
  refine Gives.by rfl rfl (W.seq ?_)
  repeat' first | ((with_reducible apply WR.c_o (f := 33) (fn := Code.f33)); exact rfl; exact rfl; exact rfl; (exact rfl); (focus ((repeat' first | exact args_nil | apply args_d | exact toD_d rfl | exact rfl); done)); exact all_gives (by assumption) (by omega); (exact rfl)) | ((with_reducible apply WR.nil)) | (with_reducible refine andThen_n ?_) | (with_reducible refine W.seq ?_) | (with_reducible refine W.region ?_) | ((with_reducible apply WR.mv); exact rfl; exact rfl) | ((with_reducible apply WR.bx); exact rfl; exact rfl; exact (by first | exact IsLawn.len (by assumption) | exact rfl); (exact rfl)) | ((with_reducible apply WR.bo); exact rfl; exact rfl; (exact rfl)) | ((with_reducible apply WR.ld); exact rfl; exact rfl; exact rfl; (first | exact loadC_all (IsLawn.len (by assumption)))) | ((with_reducible apply WR.mf); exact rfl; exact rfl)
  refine WR.de0 (fun c => ¬ P c) (allC w h) (by omega) rfl rfl (fun c hc => thoseNot_gives hx c.1 c.2 (hd _ (hmem c hc))) rfl rfl rfl rfl rfl rfl ?_
  rw [hk]
  repeat' first | ((with_reducible apply WR.nil)) | (with_reducible refine andThen_n ?_) | (with_reducible refine W.ret ?_) | ((with_reducible apply Done.f); (intro hh hh2; exact (nomatch hh2)); (focus ((repeat' first | exact all_nil | apply all_cons | exact res_tmp rfl); done)); (focus ((repeat' first | exact all_nil | apply all_cons | exact retOf_o2 rfl rfl rfl); done)); exact rfl; (focus ((repeat' first | exact outs_nil | apply outs_d); done))) | ((with_reducible apply WR.mv); exact rfl; exact rfl)
  all_goals rfl
end Go.DM

/- Rows of letters and the pieces of a text: plain facts. -/
namespace Go.DM
variable [Tok]
def unp (c : UInt8) : List (List UInt8) → List UInt8
  | [] => []
  | [p] => p
  | p :: q :: r => p ++ c :: unp c (q :: r)
end Go.DM

/- Rows of letters: the program's rows. -/
set_option maxHeartbeats 4000000
namespace Go.DM
variable [Tok]
open Go.IntWalk
section
variable {dsts : Nat → Option Nat} {ops : List Oper} {Q : St → Prop} {σ : St} {g : Option (Nat × Bool)} {l1 l2 l3 l4 : List Nat}
end
end Go.DM
