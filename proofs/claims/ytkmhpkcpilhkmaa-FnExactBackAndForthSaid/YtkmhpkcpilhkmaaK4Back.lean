/- Going back and forth: both sides, the statement. -/
import Derived.Test.YtkmhpkcpilhkmaaK4Those
import Derived.Lib.Repeat
set_option linter.unusedSimpArgs false
set_option linter.unusedVariables false
set_option maxHeartbeats 4000000
namespace Go.DM
open Go.IntWalk
variable {w h : Int} {g : Nat → Int} {cs : List S}

section
variable {dsts : Nat → Option Nat} {ops : List Oper} {Q : St → Prop} {σ : St} {d : Option Nat} {gd : Option (Nat × Bool)} {l1 l2 l3 l4 : List Nat} {Γ : Nat → Option Fn}
theorem quiet_sad {a b : Opd} {s t : List UInt8} (ha : ev σ.env a = .a (.d (.s (.str s)))) (hb : ev σ.env b = .a (.d (.s (.str t)))) (hl : s.length + t.length ≤ 1073741824) : quiet σ (.bin .add a b) = some (.a (.d (.s (.str (s ++ t))))) := by
  simp only [quiet, ha, hb, bin, strBin]
  rw [if_pos (show s.length + t.length ≤ big from hl)]; rfl
theorem WR.sad {a b : Opd} {s t : List UInt8} (hw : wanted dsts σ.env gd = some true) (ha : ev σ.env a = .a (.d (.s (.str s)))) (hb : ev σ.env b = .a (.d (.s (.str t)))) (hl : s.length + t.length ≤ 1073741824)
    (K : WR Γ dsts ops Q (set d (.a (.d (.s (.str (s ++ t))))) σ)) : WR Γ dsts (⟨d, .bin .add a b, gd, l1, l2, l3, l4⟩ :: ops) Q σ := WR.q hw (quiet_sad ha hb hl) K
theorem WH.sad {a b : Opd} {s t : List UInt8} (hw : wanted dsts (kill l1 (only l3 σ)).env gd = some true) (ha : ev (kill l1 (only l3 σ)).env a = .a (.d (.s (.str s)))) (hb : ev (kill l1 (only l3 σ)).env b = .a (.d (.s (.str t)))) (hl : s.length + t.length ≤ 1073741824)
    (K : WH Γ dsts ops Q (set d (.a (.d (.s (.str (s ++ t))))) σ)) : WH Γ dsts (⟨d, .bin .add a b, gd, l1, l2, l3, l4⟩ :: ops) Q σ := WH.q hw (quiet_sad ha hb hl) rfl K
theorem quiet_rem {a b : Opd} {k : IntKind} {n m : Int} (ha : ev σ.env a = .a (.d (.s (.int k n)))) (hb : ev σ.env b = .a (.d (.s (.int k m)))) (hm : m ≠ 0) : quiet σ (.bin .rem a b) = some (.a (.d (.s (.int k (n.tmod m))))) := by
  simp only [quiet, ha, hb, bin, isShift, intBin, if_true]
  rw [if_neg hm]; rfl
theorem WR.rem {a b : Opd} {k : IntKind} {n m : Int} (hw : wanted dsts σ.env gd = some true) (ha : ev σ.env a = .a (.d (.s (.int k n)))) (hb : ev σ.env b = .a (.d (.s (.int k m)))) (hm : m ≠ 0)
    (K : WR Γ dsts ops Q (set d (.a (.d (.s (.int k (n.tmod m))))) σ)) : WR Γ dsts (⟨d, .bin .rem a b, gd, l1, l2, l3, l4⟩ :: ops) Q σ := WR.q hw (quiet_rem ha hb hm) K
theorem WH.rem {a b : Opd} {k : IntKind} {n m : Int} (hw : wanted dsts (kill l1 (only l3 σ)).env gd = some true) (ha : ev (kill l1 (only l3 σ)).env a = .a (.d (.s (.int k n)))) (hb : ev (kill l1 (only l3 σ)).env b = .a (.d (.s (.int k m)))) (hm : m ≠ 0)
    (K : WH Γ dsts ops Q (set d (.a (.d (.s (.int k (n.tmod m))))) σ)) : WH Γ dsts (⟨d, .bin .rem a b, gd, l1, l2, l3, l4⟩ :: ops) Q σ := WH.q hw (quiet_rem ha hb hm) rfl K
end
theorem repeat_str (s : List UInt8) (n : Int) (hn : 0 ≤ n ∧ n ≤ 1000000) (hs : s.length ≤ 1000000) : Gives G 34 [.d (.s (.str s)), ai .i64 n] ⟨[.s (.str (Lib.repeatL s n.toNat))], []⟩ := by
  refine Gives.given (o := repeatO) rfl rfl ?_
  show (if _ then _ else _) = _
  rw [if_pos ⟨hn.1, hn.2, hs⟩]
/-- The letter of a row. -/
def rowB (y : Nat) : List UInt8 := if y % 2 = 0 then [69] else [87]
/-- The way, so many rows. -/
def backW (n : Nat) : Nat → List UInt8
  | 0 => []
  | y + 1 => backW n y ++ (if 0 < y then [83] else []) ++ Lib.repeatL (rowB y) n
theorem repeatL_snoc (s : List UInt8) : ∀ n, Lib.repeatL s (n + 1) = Lib.repeatL s n ++ s
  | 0 => by simp [Lib.repeatL]
  | n + 1 => by
    show s ++ Lib.repeatL s (n + 1) = (s ++ Lib.repeatL s n) ++ s
    rw [repeatL_snoc s n, List.append_assoc]
theorem rowB_len (y : Nat) : (rowB y).length = 1 := by unfold rowB; split <;> rfl
theorem rowB_even {y : Nat} (hh : ((y : Nat) : Int).tmod 2 = 0) : rowB y = [69] := by
  have : ((y % 2 : Nat) : Int) = 0 := hh
  unfold rowB; rw [if_pos (by omega)]
theorem rowB_odd {y : Nat} (hh : ¬ ((y : Nat) : Int).tmod 2 = 0) : rowB y = [87] := by
  have : ¬ ((y % 2 : Nat) : Int) = 0 := hh
  unfold rowB; rw [if_neg (by omega)]
theorem repeatL_len (s : List UInt8) (n : Nat) : (Lib.repeatL s n).length = n * s.length := Lib.repeatL_length s n
theorem backW_len (n : Nat) : ∀ y, (backW n y).length ≤ y * (n + 1)
  | 0 => by simp [backW]
  | y + 1 => by
    have := backW_len n y
    rw [backW, List.length_append, List.length_append, repeatL_len, rowB_len, Nat.succ_mul]
    split
    · simp; omega
    · simp; omega
/-- Its code. -/
def backC (w h : Int) (g : Nat → Int) : Int := belowCode (LawnOk w h g) True ((ofKind w h g 0).length = (allC w h).length)
theorem mul_b2 (hs : 0 ≤ w ∧ w ≤ 10 ∧ 0 ≤ h ∧ h ≤ 10) : 0 ≤ w * h ∧ w * h ≤ 100 := by
  have h1 := Int.mul_nonneg hs.1 hs.2.2.1
  have h2 := Int.mul_le_mul hs.2.1 hs.2.2.2 hs.2.2.1 (by omega : (0 : Int) ≤ 10)
  exact ⟨h1, by omega⟩
theorem allC_len' (hs : 0 ≤ w ∧ 0 ≤ h) : ((allC w h).length : Int) = w * h := by
  unfold allC
  rw [cellsTo_len, Int.natCast_mul, Int.toNat_of_nonneg hs.1, Int.toNat_of_nonneg hs.2]
theorem back_zero : backC w h g = 0 ↔ LawnOk w h g ∧ (ofKind w h g 0).length = (allC w h).length := by
  unfold backC
  rw [belowCode_zero]
  exact ⟨fun hh => ⟨hh.1, hh.2.2⟩, fun hh => ⟨hh.1, trivial, hh.2⟩⟩
theorem backS_ok (l : IsLawn w h g cs) (h0 : backC w h g = 0) : Gives G 13 [aa cs] ⟨[.s (.str (backW (w.toNat - 1) h.toNat)), .s (.int .i64 0)], []⟩ := by
  obtain ⟨hL, hn⟩ := back_zero.1 h0
  have hw := hL.1
  have hh := hL.2.1
  have hok := l01Ok_gives l
  rw [decide_eq_true hL] at hok
  have hc := l01Cells_gives l 0 (by omega)
  have hal := allC_len' (w := w) (h := h) (by omega)
  have hb := mul_b2 (w := w) (h := h) (by omega)
  obtain ⟨W0, rfl⟩ : ∃ W0 : Nat, w = W0 := ⟨w.toNat, by omega⟩
  obtain ⟨H0, rfl⟩ : ∃ H0 : Nat, h = H0 := ⟨h.toNat, by omega⟩
  generalize ofKind (W0 : Int) (H0 : Int) g 0 = R at hc hn
  refine Gives.by rfl rfl (W.seq ?_)
  repeat' first | ((with_reducible apply WH.c_o (f := 29) (fn := Code.f29)); exact rfl; exact rfl; exact rfl; (first | exact rfl); (focus ((repeat' first | exact args_nil | apply args_d | exact toD_d rfl | exact toD_ptr rfl rfl | exact all_nil | apply all_cons | exact rfl); done)); exact hc; (first | exact rfl); exact rfl; exact rfl) | ((with_reducible apply WR.c_p (f := 28) (fn := Code.f28)); exact rfl; exact rfl; exact rfl; (first | exact rfl); (focus ((repeat' first | exact args_nil | apply args_d | exact toD_d rfl | exact toD_ptr rfl rfl | exact all_nil | apply all_cons | exact rfl); done)); exact l01Ok_gives (by assumption)) | ((with_reducible apply WR.mv); exact rfl; exact rfl) | ((with_reducible apply WR.nil)) | (with_reducible refine andThen_n ?_) | (with_reducible refine andThen_r ?_) | (with_reducible refine W.seq ?_) | (with_reducible refine W.region ?_) | (with_reducible refine W.skip ?_) | (with_reducible refine W.ret ?_) | (with_reducible refine W.block ?_) | ((with_reducible apply W.condT); exact rfl) | ((with_reducible apply W.condF); exact rfl) | ((with_reducible apply Done.f); (intro hh hh2; exact (nomatch hh2)); (focus ((repeat' first | exact all_nil | apply all_cons | exact res_tmp rfl | exact rfl); done)); (focus ((repeat' first | exact all_nil | apply all_cons | exact retOf_s rfl | exact rfl); done)); exact rfl; (focus ((repeat' first | exact outs_nil | apply outs_d | exact rfl); done))) | ((with_reducible apply WH.nil)) | (with_reducible refine W.draw ?_) | (intro hb; try (exfalso; omega)) | ((with_reducible apply WH.cv); exact rfl; exact rfl; (first | exact i64_in _ (by omega))) | ((with_reducible apply WH.ld); exact rfl; exact rfl; exact rfl; (first | exact lawn_w (by assumption) | exact lawn_h (by assumption)); exact rfl) | ((with_reducible apply WH.fa); exact rfl; exact rfl; exact rfl) | ((with_reducible apply WR.bx); exact rfl; exact rfl; exact (by first | exact IsLawn.len (by assumption) | exact rfl); (first | exact rfl)) | ((with_reducible apply WR.un); exact rfl; exact rfl) | ((with_reducible apply WH.neq); exact rfl; exact rfl; exact rfl) | ((with_reducible apply WH.ml); exact rfl; exact rfl; exact rfl; (first | exact i64_in _ (by omega))) | ((with_reducible apply WH.le); exact rfl; exact rfl; exact rfl)
  all_goals first
    | exact absurd hL (by assumption)
    | (exfalso; omega)
    | skip
  (refine W.loopM [1] [1] [] (fun zz : (Nat) × (List UInt8) => match zz with | (y, s) => (H0 - y : Nat)) (fun zz : (Nat) × (List UInt8) => match zz with | (y, s) => (y ≤ H0 ∧ s = backW (W0 - 1) y : Prop)) (fun zz : (Nat) × (List UInt8) => match zz with | (y, s) => [(4, .a (.d (.s (.str s)))), (5, .a (.d (.s (.int .i8 (y : Nat)))))]) (fun zz : (Nat) × (List UInt8) => match zz with | (y, s) => []) (0, []) (⟨by omega, rfl⟩) ⟨rfl, rfl, trivial⟩ trivial trivial ?_)
  rintro ⟨y, s⟩ σ hP hN; dsimp only [setL, putL] at hP ⊢
  obtain ⟨hy, hs⟩ := hP
  have hbl := backW_len (W0 - 1) y
  have hyw : y * (W0 - 1 + 1) ≤ 10 * 10 := Nat.mul_le_mul (by omega) (by omega)
  rw [← hs] at hbl
  by_cases hyl : y < H0
  · by_cases hy0 : 0 < y
    · repeat' first | ((with_reducible apply WR.sad); exact rfl; exact rfl; exact rfl; exact (by simp; omega)) | ((with_reducible apply WR.mv); exact rfl; exact rfl) | ((with_reducible apply WR.nil)) | (with_reducible refine andThen_n ?_) | (with_reducible refine W.seq ?_) | (with_reducible refine W.region ?_) | (with_reducible refine W.skip ?_) | (with_reducible refine W.block ?_) | ((with_reducible apply W.condT); exact rfl) | (intro hb; try (exfalso; omega)) | ((with_reducible apply WR.lss); exact rfl; exact rfl; exact rfl) | ((with_reducible apply WR.ld); exact rfl; exact rfl; exact rfl; (first | exact lawn_h (by assumption))) | ((with_reducible apply WR.fa); exact rfl; exact rfl) | ((with_reducible apply WR.gtr); exact rfl; exact rfl; exact rfl)
      (refine W.loopM [1, 5] [1] [] (fun zz : (Nat) × (List UInt8) => match zz with | (x, t) => (W0 - x : Nat)) (fun zz : (Nat) × (List UInt8) => match zz with | (x, t) => (1 ≤ x ∧ x ≤ W0 ∧ t = (s ++ [83]) ++ Lib.repeatL (rowB y) (x - 1) : Prop)) (fun zz : (Nat) × (List UInt8) => match zz with | (x, t) => [(4, .a (.d (.s (.str t)))), (6, .a (.d (.s (.int .i8 (x : Nat)))))]) (fun zz : (Nat) × (List UInt8) => match zz with | (x, t) => []) (1, s ++ [83]) (⟨by omega, by omega, by simp [Lib.repeatL]⟩) ⟨rfl, rfl, trivial⟩ trivial trivial ?_)
      rintro ⟨x, t⟩ σ hP hN; dsimp only [setL, putL] at hP ⊢
      obtain ⟨hx1, hx, ht⟩ := hP
      have htl : t.length ≤ 200 := by rw [ht, List.length_append, repeatL_len, rowB_len]; simp; omega
      have hr : ∀ b : List UInt8, rowB y = b → t ++ b = (s ++ [83]) ++ Lib.repeatL (rowB y) x := fun b hb => by
        obtain ⟨x', rfl⟩ : ∃ x', x = x' + 1 := ⟨x - 1, by omega⟩
        rw [repeatL_snoc, ht, Nat.add_sub_cancel, hb, List.append_assoc]
      repeat' first | ((with_reducible apply WR.sad); exact rfl; exact rfl; exact rfl; exact (by simp; omega)) | ((with_reducible apply WR.rem); exact rfl; exact rfl; exact rfl; exact (by decide)) | ((with_reducible apply WR.mv); exact rfl; exact rfl) | ((with_reducible apply WR.ad); exact rfl; exact rfl; exact rfl; (first | exact i8_in _ (by omega))) | ((with_reducible apply WR.nil)) | (with_reducible refine andThen_n ?_) | (with_reducible refine andThen_x ?_) | (with_reducible refine inB_n ?_) | (with_reducible refine inB_x ?_) | (with_reducible refine W.seq ?_) | (with_reducible refine W.region ?_) | (with_reducible refine W.skip ?_) | (with_reducible refine W.exit ?_) | (with_reducible refine W.block ?_) | ((with_reducible apply W.condT); exact rfl) | ((with_reducible apply W.condF); exact rfl) | (intro hb; try (exfalso; omega)) | ((with_reducible apply WR.lss); exact rfl; exact rfl; exact rfl) | ((with_reducible apply WR.ld); exact rfl; exact rfl; exact rfl; (first | exact lawn_w (by assumption))) | ((with_reducible apply WR.fa); exact rfl; exact rfl) | ((with_reducible apply WR.eql); exact rfl; exact rfl; exact rfl)
      · (refine W.nxt (x + 1, t ++ [69]) (by first | omega | (dsimp only; omega)) ?_ ⟨rfl, rfl, trivial⟩ trivial ⟨rfl, rfl, trivial⟩ ⟨rfl, trivial⟩ trivial); (try dsimp only)
        exact ⟨by omega, by omega, hr _ (rowB_even (by assumption))⟩
      · (refine W.nxt (x + 1, t ++ [87]) (by first | omega | (dsimp only; omega)) ?_ ⟨rfl, rfl, trivial⟩ trivial ⟨rfl, rfl, trivial⟩ ⟨rfl, trivial⟩ trivial); (try dsimp only)
        exact ⟨by omega, by omega, hr _ (rowB_odd (by assumption))⟩
      · obtain rfl : x = W0 := by omega
        (refine W.nxt (y + 1, t) (by first | omega | (dsimp only; omega)) ?_ ⟨rfl, rfl, trivial⟩ trivial ⟨rfl, trivial⟩ ⟨rfl, trivial⟩ trivial); (try dsimp only)
        refine ⟨by omega, ?_⟩
        rw [backW, ht, ← hs]
        simp [hy0]
    · repeat' first | ((with_reducible apply WR.mv); exact rfl; exact rfl) | ((with_reducible apply WR.nil)) | (with_reducible refine andThen_n ?_) | (with_reducible refine W.seq ?_) | (with_reducible refine W.region ?_) | (with_reducible refine W.skip ?_) | (with_reducible refine W.block ?_) | ((with_reducible apply W.condT); exact rfl) | ((with_reducible apply W.condF); exact rfl) | (intro hb; try (exfalso; omega)) | ((with_reducible apply WR.lss); exact rfl; exact rfl; exact rfl) | ((with_reducible apply WR.ld); exact rfl; exact rfl; exact rfl; (first | exact lawn_h (by assumption))) | ((with_reducible apply WR.fa); exact rfl; exact rfl) | ((with_reducible apply WR.gtr); exact rfl; exact rfl; exact rfl)
      (refine W.loopM [1, 5] [1] [] (fun zz : (Nat) × (List UInt8) => match zz with | (x, t) => (W0 - x : Nat)) (fun zz : (Nat) × (List UInt8) => match zz with | (x, t) => (1 ≤ x ∧ x ≤ W0 ∧ t = s ++ Lib.repeatL (rowB y) (x - 1) : Prop)) (fun zz : (Nat) × (List UInt8) => match zz with | (x, t) => [(4, .a (.d (.s (.str t)))), (6, .a (.d (.s (.int .i8 (x : Nat)))))]) (fun zz : (Nat) × (List UInt8) => match zz with | (x, t) => []) (1, s) (⟨by omega, by omega, by simp [Lib.repeatL]⟩) ⟨rfl, rfl, trivial⟩ trivial trivial ?_)
      rintro ⟨x, t⟩ σ hP hN; dsimp only [setL, putL] at hP ⊢
      obtain ⟨hx1, hx, ht⟩ := hP
      have htl : t.length ≤ 200 := by rw [ht, List.length_append, repeatL_len, rowB_len]; simp; omega
      have hr : ∀ b : List UInt8, rowB y = b → t ++ b = s ++ Lib.repeatL (rowB y) x := fun b hb => by
        obtain ⟨x', rfl⟩ : ∃ x', x = x' + 1 := ⟨x - 1, by omega⟩
        rw [repeatL_snoc, ht, Nat.add_sub_cancel, hb, List.append_assoc]
      repeat' first | ((with_reducible apply WR.sad); exact rfl; exact rfl; exact rfl; exact (by simp; omega)) | ((with_reducible apply WR.rem); exact rfl; exact rfl; exact rfl; exact (by decide)) | ((with_reducible apply WR.mv); exact rfl; exact rfl) | ((with_reducible apply WR.ad); exact rfl; exact rfl; exact rfl; (first | exact i8_in _ (by omega))) | ((with_reducible apply WR.nil)) | (with_reducible refine andThen_n ?_) | (with_reducible refine andThen_x ?_) | (with_reducible refine inB_n ?_) | (with_reducible refine inB_x ?_) | (with_reducible refine W.seq ?_) | (with_reducible refine W.region ?_) | (with_reducible refine W.skip ?_) | (with_reducible refine W.exit ?_) | (with_reducible refine W.block ?_) | ((with_reducible apply W.condT); exact rfl) | ((with_reducible apply W.condF); exact rfl) | (intro hb; try (exfalso; omega)) | ((with_reducible apply WR.lss); exact rfl; exact rfl; exact rfl) | ((with_reducible apply WR.ld); exact rfl; exact rfl; exact rfl; (first | exact lawn_w (by assumption))) | ((with_reducible apply WR.fa); exact rfl; exact rfl) | ((with_reducible apply WR.eql); exact rfl; exact rfl; exact rfl)
      · (refine W.nxt (x + 1, t ++ [69]) (by first | omega | (dsimp only; omega)) ?_ ⟨rfl, rfl, trivial⟩ trivial ⟨rfl, rfl, trivial⟩ ⟨rfl, trivial⟩ trivial); (try dsimp only)
        exact ⟨by omega, by omega, hr _ (rowB_even (by assumption))⟩
      · (refine W.nxt (x + 1, t ++ [87]) (by first | omega | (dsimp only; omega)) ?_ ⟨rfl, rfl, trivial⟩ trivial ⟨rfl, rfl, trivial⟩ ⟨rfl, trivial⟩ trivial); (try dsimp only)
        exact ⟨by omega, by omega, hr _ (rowB_odd (by assumption))⟩
      · obtain rfl : x = W0 := by omega
        (refine W.nxt (y + 1, t) (by first | omega | (dsimp only; omega)) ?_ ⟨rfl, rfl, trivial⟩ trivial ⟨rfl, trivial⟩ ⟨rfl, trivial⟩ trivial); (try dsimp only)
        refine ⟨by omega, ?_⟩
        rw [backW, ht, ← hs]
        simp [hy0]
  · repeat' first | ((with_reducible apply WR.mv); exact rfl; exact rfl) | ((with_reducible apply WR.nil)) | (with_reducible refine andThen_n ?_) | (with_reducible refine andThen_x ?_) | (with_reducible refine inB_x ?_) | (with_reducible refine W.seq ?_) | (with_reducible refine W.region ?_) | (with_reducible refine W.ret ?_) | (with_reducible refine W.exit ?_) | ((with_reducible apply W.condF); exact rfl) | ((with_reducible apply Done.f); (intro hh hh2; exact (nomatch hh2)); (focus ((repeat' first | exact all_nil | apply all_cons | exact res_tmp rfl); done)); (focus ((repeat' first | exact all_nil | apply all_cons | exact retOf_s rfl); done)); exact rfl; (focus ((repeat' first | exact outs_nil | apply outs_d); done))) | (intro hb; try (exfalso; omega)) | ((with_reducible apply WR.lss); exact rfl; exact rfl; exact rfl) | ((with_reducible apply WR.ld); exact rfl; exact rfl; exact rfl; (first | exact lawn_h (by assumption))) | ((with_reducible apply WR.fa); exact rfl; exact rfl)
    obtain rfl : y = H0 := by omega
    rw [hs]; rfl
theorem ldB (y : Nat) : loadC 1 false [.str [69], .str [87]] (0 + (((y : Nat) : Int).tmod 2).toNat * 1) = some (.a (.d (.s (.str (rowB y))))) := by
  have e : (((y : Nat) : Int).tmod 2) = ((y % 2 : Nat) : Int) := rfl
  rw [e, Int.toNat_natCast]
  unfold rowB
  have h2 : y % 2 < 2 := Nat.mod_lt _ (by omega)
  by_cases h0 : y % 2 = 0
  · rw [h0, if_pos rfl]; rfl
  · rw [show y % 2 = 1 by omega, if_neg (by omega)]; rfl
theorem back_ok (l : IsLawn w h g cs) (h0 : backC w h g = 0) : Gives G 14 [aa cs] ⟨[.s (.str (backW (w.toNat - 1) h.toNat)), .s (.int .i64 0)], []⟩ := by
  obtain ⟨hL, hn⟩ := back_zero.1 h0
  have hw := hL.1
  have hh := hL.2.1
  have hok := validLawn_gives l
  rw [decide_eq_true hL] at hok
  have hth := those_gives l (by omega) (holds_grass l ⟨by omega, by omega⟩) (fun _ _ => trivial)
  rw [those_grass] at hth
  have hth' : Gives G 31 [aa cs, .d (.clo 32 [.agg cs] [])] ⟨[.own (ofKind w h g 0).length 2 (encC (ofKind w h g 0))], []⟩ := hth
  clear hth
  have hal := all_gives l (by omega)
  obtain ⟨W0, rfl⟩ : ∃ W0 : Nat, w = W0 := ⟨w.toNat, by omega⟩
  obtain ⟨H0, rfl⟩ : ∃ H0 : Nat, h = H0 := ⟨h.toNat, by omega⟩
  generalize ofKind (W0 : Int) (H0 : Int) g 0 = R at hth' hn
  generalize allC (W0 : Int) (H0 : Int) = A at hal hn
  refine Gives.by rfl rfl (W.seq ?_)
  repeat' first | ((with_reducible apply WH.c_o (f := 31) (fn := Code.f31)); exact rfl; exact rfl; exact rfl; (first | exact rfl); (focus ((repeat' first | exact args_nil | apply args_d | exact toD_d rfl | (apply toD_clo; exact rfl) | exact all_nil | apply all_cons | exact rfl); done)); exact hth'; (first | exact rfl); exact rfl; exact rfl) | ((with_reducible apply WH.c_o (f := 33) (fn := Code.f33)); exact rfl; exact rfl; exact rfl; (first | exact rfl); (focus ((repeat' first | exact args_nil | apply args_d | exact toD_d rfl | (apply toD_clo; exact rfl) | exact all_nil | apply all_cons | exact rfl); done)); exact hal; (first | exact rfl); exact rfl; exact rfl) | ((with_reducible apply WR.c_p (f := 30) (fn := Code.f30)); exact rfl; exact rfl; exact rfl; (first | exact rfl); (focus ((repeat' first | exact args_nil | apply args_d | exact toD_d rfl | (apply toD_clo; exact rfl) | exact all_nil | apply all_cons | exact rfl); done)); exact validLawn_gives (by assumption)) | ((with_reducible apply WR.mv); exact rfl; exact rfl) | ((with_reducible apply WH.ld); exact rfl; exact rfl; exact rfl; (first | exact lawn_h (by assumption) | exact loadC_all (IsLawn.len (by assumption))); exact rfl) | ((with_reducible apply WH.mv); exact rfl; exact rfl; exact rfl) | ((with_reducible apply WR.nil)) | (with_reducible refine andThen_n ?_) | (with_reducible refine andThen_r ?_) | (with_reducible refine inB_n ?_) | (with_reducible refine inB_r ?_) | (with_reducible refine W.seq ?_) | (with_reducible refine W.region ?_) | (with_reducible refine W.skip ?_) | (with_reducible refine W.ret ?_) | (with_reducible refine W.block ?_) | ((with_reducible apply W.condT); exact rfl) | ((with_reducible apply W.condF); exact rfl) | ((with_reducible apply Done.f); (intro hh hh2; exact (nomatch hh2)); (focus ((repeat' first | exact all_nil | apply all_cons | exact res_tmp rfl | exact rfl); done)); (focus ((repeat' first | exact all_nil | apply all_cons | exact retOf_s rfl | exact rfl); done)); exact rfl; (focus ((repeat' first | exact outs_nil | apply outs_d | exact rfl); done))) | ((with_reducible apply WH.nil)) | (with_reducible refine W.draw ?_) | (intro hb; try (exfalso; omega)) | ((with_reducible apply WR.ld); exact rfl; exact rfl; exact rfl; (first | exact lawn_h (by assumption) | exact loadC_all (IsLawn.len (by assumption)))) | ((with_reducible apply WH.le); exact rfl; exact rfl; exact rfl) | ((with_reducible apply WR.cv); exact rfl; exact rfl; (first | exact i64_in _ (by omega))) | ((with_reducible apply WR.bx); exact rfl; exact rfl; exact (by first | exact IsLawn.len (by assumption) | exact rfl); (first | exact rfl)) | ((with_reducible apply WR.un); exact rfl; exact rfl) | ((with_reducible apply WR.fa); exact rfl; exact rfl) | ((with_reducible apply WH.lss); exact rfl; exact rfl; exact rfl) | ((with_reducible apply WH.mf); exact rfl; exact rfl; exact rfl)
  all_goals first
    | exact absurd hL (by assumption)
    | (exfalso; omega)
    | skip
  (refine W.loopM [1, 22] [1] [31] (fun zz : (Nat) × (List UInt8) => match zz with | (y, s) => (H0 - y : Nat)) (fun zz : (Nat) × (List UInt8) => match zz with | (y, s) => (y ≤ H0 ∧ s = backW (W0 - 1) y : Prop)) (fun zz : (Nat) × (List UInt8) => match zz with | (y, s) => [(4, .a (.d (.s (.str s)))), (23, .a (.d (.s (.int .i64 (y : Nat)))))]) (fun zz : (Nat) × (List UInt8) => match zz with | (y, s) => []) (0, []) (⟨by omega, rfl⟩) ⟨rfl, rfl, trivial⟩ trivial ⟨(by (repeat' first | exact rfl | assumption | (with_reducible apply noPar_set) | ((with_reducible apply noPar_puto); exact rfl) | (with_reducible apply noPar_put) | (with_reducible apply noPar_putv) | (with_reducible apply noPar_kill) | ((with_reducible apply noPar_mix); exact rfl) | ((with_reducible apply noPar_mixT); exact rfl)); done), trivial⟩ ?_)
  rintro ⟨y, s⟩ σ hP hN; dsimp only [setL, putL] at hP ⊢; obtain ⟨n31, hN⟩ := hN
  obtain ⟨hy, hs⟩ := hP
  have hbl := backW_len (W0 - 1) y
  have hyw : y * (W0 - 1 + 1) ≤ 10 * 10 := Nat.mul_le_mul (by omega) (by omega)
  rw [← hs] at hbl
  have e2 : (((y : Nat) : Int).tmod 2) = ((y % 2 : Nat) : Int) := rfl
  have h2 : y % 2 < 2 := Nat.mod_lt _ (by omega)
  by_cases hyl : y < H0
  · have hrep := repeat_str (rowB y) ((W0 : Int) - 1) (by omega) (by rw [rowB_len]; omega)
    have hrl := repeatL_len (rowB y) ((W0 : Int) - 1).toNat
    rw [rowB_len] at hrl
    generalize hLL : Lib.repeatL (rowB y) ((W0 : Int) - 1).toNat = L at hrep hrl
    by_cases hy0 : 0 < y
    all_goals
      repeat' first | ((with_reducible apply WR.sad); exact rfl; exact rfl; exact rfl; exact (by first | omega | (simp; omega))) | ((with_reducible apply WH.sad); exact rfl; exact rfl; exact rfl; exact (by first | omega | (simp; omega))) | ((with_reducible apply WH.rem); exact rfl; exact rfl; exact rfl; exact (by decide)) | ((with_reducible apply WH.is); exact rfl; exact rfl; exact rfl; exact (by omega); exact rfl) | ((with_reducible apply WH.ld); exact rfl; exact rfl; exact rfl; exact (ldB y); exact rfl) | ((with_reducible apply WH.c_s (f := 34) (fn := Code.f34)); exact rfl; exact rfl; exact rfl; (first | exact rfl); (focus ((repeat' first | exact args_nil | apply args_d | exact toD_d rfl | exact rfl); done)); exact hrep; exact rfl) | ((with_reducible apply WR.mv); exact rfl; exact rfl) | ((with_reducible apply WH.ld); exact rfl; exact rfl; exact rfl; (first | exact lawn_w (by assumption)); exact rfl) | ((with_reducible apply WH.mv); exact rfl; exact rfl; exact rfl) | ((with_reducible apply WR.nil)) | (with_reducible refine andThen_n ?_) | (with_reducible refine inB_n ?_) | (with_reducible refine W.seq ?_) | (with_reducible refine W.region ?_) | (with_reducible refine W.skip ?_) | (with_reducible refine W.block ?_) | ((with_reducible apply W.condT); exact rfl) | ((with_reducible apply W.condF); exact rfl) | ((with_reducible apply WH.nil)) | (with_reducible refine W.draw ?_) | (intro hb; try (exfalso; omega)) | ((with_reducible apply WR.ad); exact rfl; exact rfl; exact rfl; (first | exact i64_in _ (by omega) | assumption)) | ((with_reducible apply WR.lss); exact rfl; exact rfl; exact rfl) | ((with_reducible apply WR.gtr); exact rfl; exact rfl; exact rfl) | ((with_reducible apply WH.cv); exact rfl; exact rfl; (first | exact i64_in _ (by omega) | assumption)) | ((with_reducible apply WH.sb); exact rfl; exact rfl; exact rfl; (first | exact i64_in _ (by omega) | assumption)) | ((with_reducible apply WH.fa); exact rfl; exact rfl; exact rfl) | ((with_reducible apply WH.bs); exact rfl; exact rfl; (first | exact rfl | assumption); exact rfl; exact rfl; exact rfl)
    all_goals
      (refine W.nxt (y + 1, _) (by first | omega | (dsimp only; omega)) ?_ ⟨rfl, rfl, trivial⟩ trivial ⟨rfl, rfl, trivial⟩ ⟨rfl, trivial⟩ ⟨(by (repeat' first | exact rfl | assumption | (with_reducible apply noPar_set) | ((with_reducible apply noPar_puto); exact rfl) | (with_reducible apply noPar_put) | (with_reducible apply noPar_putv) | (with_reducible apply noPar_kill) | ((with_reducible apply noPar_mix); exact rfl) | ((with_reducible apply noPar_mixT); exact rfl)); done), trivial⟩); (try dsimp only)
      refine ⟨by omega, ?_⟩
      have e1 : ((W0 : Int) - 1).toNat = W0 - 1 := by omega
      rw [e1] at hLL
      rw [backW, hLL, ← hs]
      simp [hy0]
  · repeat' first | ((with_reducible apply WR.mv); exact rfl; exact rfl) | ((with_reducible apply WR.nil)) | (with_reducible refine andThen_n ?_) | (with_reducible refine andThen_x ?_) | (with_reducible refine inB_x ?_) | (with_reducible refine W.seq ?_) | (with_reducible refine W.region ?_) | (with_reducible refine W.ret ?_) | (with_reducible refine W.exit ?_) | ((with_reducible apply W.condF); exact rfl) | ((with_reducible apply Done.f); (intro hh hh2; exact (nomatch hh2)); (focus ((repeat' first | exact all_nil | apply all_cons | exact res_tmp rfl); done)); (focus ((repeat' first | exact all_nil | apply all_cons | exact retOf_s rfl); done)); exact rfl; (focus ((repeat' first | exact outs_nil | apply outs_d); done))) | (intro hb; try (exfalso; omega)) | ((with_reducible apply WR.lss); exact rfl; exact rfl; exact rfl)
    obtain rfl : y = H0 := by omega
    rw [hs]; rfl
theorem of_le : (ofKind w h g 0).length ≤ (allC w h).length := List.length_filter_le ..
theorem backS_no (l : IsLawn w h g cs) (h0 : ¬ backC w h g = 0) : Gives G 13 [aa cs] ⟨[.s (.str []), .s (.int .i64 (backC w h g))], []⟩ := by
  have hok := l01Ok_gives l
  by_cases hL : LawnOk w h g
  · have hw := hL.1
    have hh := hL.2.1
    have hn : ¬ (ofKind w h g 0).length = (allC w h).length := fun hn => h0 (back_zero.2 ⟨hL, hn⟩)
    have h4 : backC w h g = 4 := by simp only [backC, belowCode, if_pos hL, if_pos trivial, if_neg hn]
    have hc := l01Cells_gives l 0 (by omega)
    have hal := allC_len' (w := w) (h := h) (by omega)
    have hb := mul_b2 (w := w) (h := h) (by omega)
    rw [h4]
    generalize ofKind w h g 0 = R at hc hn
    refine Gives.by rfl rfl (W.seq ?_)
    repeat' first | ((with_reducible apply WR.c_p (f := 28) (fn := Code.f28)); exact rfl; exact rfl; exact rfl; (first | exact rfl); (focus ((repeat' first | exact args_nil | apply args_d | exact toD_d rfl | exact toD_ptr rfl rfl | exact all_nil | apply all_cons | exact rfl); done)); exact hok) | ((with_reducible apply WH.c_o (f := 29) (fn := Code.f29)); exact rfl; exact rfl; exact rfl; (first | exact rfl); (focus ((repeat' first | exact args_nil | apply args_d | exact toD_d rfl | exact toD_ptr rfl rfl | exact all_nil | apply all_cons | exact rfl); done)); exact hc; (first | exact rfl); exact rfl; exact rfl) | ((with_reducible apply WR.mv); exact rfl; exact rfl) | ((with_reducible apply WR.nil)) | (with_reducible refine andThen_n ?_) | (with_reducible refine andThen_r ?_) | (with_reducible refine W.seq ?_) | (with_reducible refine W.region ?_) | (with_reducible refine W.skip ?_) | (with_reducible refine W.ret ?_) | ((with_reducible apply W.condT); exact rfl) | ((with_reducible apply W.condF); exact rfl) | ((with_reducible apply Done.f); (intro hh hh2; exact (nomatch hh2)); (focus ((repeat' first | exact all_nil | apply all_cons | exact res_tmp rfl | exact rfl); done)); (focus ((repeat' first | exact all_nil | apply all_cons | exact retOf_s rfl | exact rfl); done)); exact rfl; (focus ((repeat' first | exact outs_nil | apply outs_d | exact rfl); done))) | ((with_reducible apply WH.nil)) | (with_reducible refine W.draw ?_) | (intro hb; try (exfalso; omega)) | ((with_reducible apply WH.cv); exact rfl; exact rfl; (first | exact i64_in _ (by omega))) | ((with_reducible apply WH.ld); exact rfl; exact rfl; exact rfl; (first | exact lawn_w (by assumption) | exact lawn_h (by assumption)); exact rfl) | ((with_reducible apply WH.fa); exact rfl; exact rfl; exact rfl) | ((with_reducible apply WR.bx); exact rfl; exact rfl; exact (by first | exact IsLawn.len (by assumption) | exact rfl); (first | exact rfl)) | ((with_reducible apply WR.un); exact rfl; exact rfl) | ((with_reducible apply WH.neq); exact rfl; exact rfl; exact rfl) | ((with_reducible apply WH.ml); exact rfl; exact rfl; exact rfl; (first | exact i64_in _ (by omega))) | ((with_reducible apply WH.le); exact rfl; exact rfl; exact rfl)
    all_goals first
      | exact absurd hL (by assumption)
      | (exfalso; omega)
      | rfl
  · have h4 : backC w h g = 1 := by simp only [backC, belowCode, if_neg hL]
    rw [h4]
    refine Gives.by rfl rfl (W.seq ?_)
    repeat' first | ((with_reducible apply WR.c_p (f := 28) (fn := Code.f28)); exact rfl; exact rfl; exact rfl; (first | exact rfl); (focus ((repeat' first | exact args_nil | apply args_d | exact toD_d rfl | exact toD_ptr rfl rfl | exact all_nil | apply all_cons | exact rfl); done)); exact hok) | ((with_reducible apply WR.mv); exact rfl; exact rfl) | ((with_reducible apply WR.nil)) | (with_reducible refine andThen_n ?_) | (with_reducible refine andThen_r ?_) | (with_reducible refine W.seq ?_) | (with_reducible refine W.region ?_) | (with_reducible refine W.skip ?_) | (with_reducible refine W.ret ?_) | ((with_reducible apply W.condT); exact rfl) | ((with_reducible apply W.condF); exact rfl) | ((with_reducible apply Done.f); (intro hh hh2; exact (nomatch hh2)); (focus ((repeat' first | exact all_nil | apply all_cons | exact res_tmp rfl | exact rfl); done)); (focus ((repeat' first | exact all_nil | apply all_cons | exact retOf_s rfl | exact rfl); done)); exact rfl; (focus ((repeat' first | exact outs_nil | apply outs_d | exact rfl); done))) | (with_reducible refine W.draw ?_) | (intro hb; try (exfalso; omega)) | ((with_reducible apply WR.bx); exact rfl; exact rfl; exact (by first | exact IsLawn.len (by assumption) | exact rfl); (first | exact rfl)) | ((with_reducible apply WR.un); exact rfl; exact rfl)
    all_goals first
      | exact absurd (by assumption) hL
      | rfl
theorem back_no (l : IsLawn w h g cs) (h0 : ¬ backC w h g = 0) : Gives G 14 [aa cs] ⟨[.s (.str []), .s (.int .i64 (backC w h g))], []⟩ := by
  have hok := validLawn_gives l
  by_cases hL : LawnOk w h g
  · have hw := hL.1
    have hh := hL.2.1
    have hn : ¬ (ofKind w h g 0).length = (allC w h).length := fun hn => h0 (back_zero.2 ⟨hL, hn⟩)
    have hle := of_le (w := w) (h := h) (g := g)
    have h4 : backC w h g = 4 := by simp only [backC, belowCode, if_pos hL, if_pos trivial, if_neg hn]
    have hth := those_gives l (by omega) (holds_grass l ⟨by omega, by omega⟩) (fun _ _ => trivial)
    rw [those_grass] at hth
    have hth' : Gives G 31 [aa cs, .d (.clo 32 [.agg cs] [])] ⟨[.own (ofKind w h g 0).length 2 (encC (ofKind w h g 0))], []⟩ := hth
    clear hth
    have hal := all_gives l (by omega)
    rw [h4]
    generalize ofKind w h g 0 = R at hth' hn hle
    generalize allC w h = A at hal hn hle
    refine Gives.by rfl rfl (W.seq ?_)
    repeat' first | ((with_reducible apply WR.c_p (f := 30) (fn := Code.f30)); exact rfl; exact rfl; exact rfl; (first | exact rfl); (focus ((repeat' first | exact args_nil | apply args_d | exact toD_d rfl | (apply toD_clo; exact rfl) | exact all_nil | apply all_cons | exact rfl); done)); exact hok) | ((with_reducible apply WH.c_o (f := 31) (fn := Code.f31)); exact rfl; exact rfl; exact rfl; (first | exact rfl); (focus ((repeat' first | exact args_nil | apply args_d | exact toD_d rfl | (apply toD_clo; exact rfl) | exact all_nil | apply all_cons | exact rfl); done)); exact hth'; (first | exact rfl); exact rfl; exact rfl) | ((with_reducible apply WH.c_o (f := 33) (fn := Code.f33)); exact rfl; exact rfl; exact rfl; (first | exact rfl); (focus ((repeat' first | exact args_nil | apply args_d | exact toD_d rfl | (apply toD_clo; exact rfl) | exact all_nil | apply all_cons | exact rfl); done)); exact hal; (first | exact rfl); exact rfl; exact rfl) | ((with_reducible apply WR.mv); exact rfl; exact rfl) | ((with_reducible apply WH.ld); exact rfl; exact rfl; exact rfl; (first | exact loadC_all (IsLawn.len (by assumption))); exact rfl) | ((with_reducible apply WH.mv); exact rfl; exact rfl; exact rfl) | ((with_reducible apply WR.nil)) | (with_reducible refine andThen_n ?_) | (with_reducible refine andThen_r ?_) | (with_reducible refine inB_r ?_) | (with_reducible refine W.seq ?_) | (with_reducible refine W.region ?_) | (with_reducible refine W.ret ?_) | (with_reducible refine W.block ?_) | ((with_reducible apply W.condT); exact rfl) | ((with_reducible apply W.condF); exact rfl) | ((with_reducible apply Done.f); (intro hh hh2; exact (nomatch hh2)); (focus ((repeat' first | exact all_nil | apply all_cons | exact res_tmp rfl | exact rfl); done)); (focus ((repeat' first | exact all_nil | apply all_cons | exact retOf_s rfl | exact rfl); done)); exact rfl; (focus ((repeat' first | exact outs_nil | apply outs_d | exact rfl); done))) | ((with_reducible apply WH.nil)) | (with_reducible refine W.draw ?_) | (intro hb; try (exfalso; omega)) | ((with_reducible apply WR.ld); exact rfl; exact rfl; exact rfl; (first | exact loadC_all (IsLawn.len (by assumption)))) | ((with_reducible apply WH.le); exact rfl; exact rfl; exact rfl) | ((with_reducible apply WR.bx); exact rfl; exact rfl; exact (by first | exact IsLawn.len (by assumption) | exact rfl); (first | exact rfl)) | ((with_reducible apply WR.un); exact rfl; exact rfl) | ((with_reducible apply WH.lss); exact rfl; exact rfl; exact rfl) | ((with_reducible apply WH.mf); exact rfl; exact rfl; exact rfl)
    all_goals first
      | exact absurd hL (by assumption)
      | (exfalso; omega)
      | rfl
  · have h4 : backC w h g = 1 := by simp only [backC, belowCode, if_neg hL]
    rw [h4]
    refine Gives.by rfl rfl (W.seq ?_)
    repeat' first | ((with_reducible apply WR.c_p (f := 30) (fn := Code.f30)); exact rfl; exact rfl; exact rfl; (first | exact rfl); (focus ((repeat' first | exact args_nil | apply args_d | exact toD_d rfl | exact all_nil | apply all_cons | exact rfl); done)); exact hok) | ((with_reducible apply WR.mv); exact rfl; exact rfl) | ((with_reducible apply WH.ld); exact rfl; exact rfl; exact rfl; (first | exact loadC_all (IsLawn.len (by assumption))); exact rfl) | ((with_reducible apply WR.nil)) | (with_reducible refine andThen_n ?_) | (with_reducible refine andThen_r ?_) | (with_reducible refine inB_r ?_) | (with_reducible refine W.seq ?_) | (with_reducible refine W.region ?_) | (with_reducible refine W.ret ?_) | (with_reducible refine W.block ?_) | ((with_reducible apply W.condT); exact rfl) | ((with_reducible apply W.condF); exact rfl) | ((with_reducible apply Done.f); (intro hh hh2; exact (nomatch hh2)); (focus ((repeat' first | exact all_nil | apply all_cons | exact res_tmp rfl | exact rfl); done)); (focus ((repeat' first | exact all_nil | apply all_cons | exact retOf_s rfl | exact rfl); done)); exact rfl; (focus ((repeat' first | exact outs_nil | apply outs_d | exact rfl); done))) | (with_reducible refine W.draw ?_) | (intro hb; try (exfalso; omega)) | ((with_reducible apply WR.ld); exact rfl; exact rfl; exact rfl; (first | exact loadC_all (IsLawn.len (by assumption)))) | ((with_reducible apply WR.bx); exact rfl; exact rfl; exact (by first | exact IsLawn.len (by assumption) | exact rfl); (first | exact rfl)) | ((with_reducible apply WR.un); exact rfl; exact rfl) | ((with_reducible apply WH.mf); exact rfl; exact rfl; exact rfl)
    all_goals first
      | exact absurd (by assumption) hL
      | rfl
end Go.DM
