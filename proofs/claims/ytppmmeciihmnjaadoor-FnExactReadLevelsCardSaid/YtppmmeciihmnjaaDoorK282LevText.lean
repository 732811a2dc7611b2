/- Levels as text: both sides, the statement. -/
import Derived.Test.YtppmmeciihmnjaaDoorK282All
import Derived.Test.YtppmmeciihmnjaaDoorK282Laws
import Derived.Test.YtppmmeciihmnjaaDoorK282More
set_option linter.unusedSimpArgs false
set_option linter.unusedVariables false
set_option maxHeartbeats 4000000
namespace Go.DM
open Go.IntWalk
variable {w h : Int} {g : Nat → Int} {cs : List S} {q : Nat → Int} {qs : List S}

/-- So many cells of a row; so many rows. -/
def rowT (q : Nat → Int) (y x : Nat) : List UInt8 := Lib.join ((List.range x).map fun k => itemT (q (10 * y + k))) [32]
def rowsT (q : Nat → Int) (W : Nat) : Nat → List UInt8
  | 0 => []
  | y + 1 => rowsT q W y ++ rowT q y W ++ [10]
theorem rowT_succ (q : Nat → Int) (y x : Nat) : rowT q y (x + 1) = (if x = 0 then [] else rowT q y x ++ [32]) ++ itemT (q (10 * y + x)) := by
  unfold rowT
  rw [List.range_succ, List.map_append, List.map_cons, List.map_nil]
  by_cases h : x = 0
  · subst h; simp [Lib.join_one]
  · rw [if_neg h, join_snoc _ _ _ (by simpa using h)]
theorem l06Text_gives (l : IsLawn w h g cs) (v : IsLev q qs) (hs : 1 ≤ w ∧ w ≤ 10 ∧ 1 ≤ h ∧ h ≤ 10) (hq : ∀ k, k < 100 → -9 ≤ q k ∧ q k ≤ 9) : Gives G 229 [ar cs, ar qs] ⟨[.s (.str (rowsT q w.toNat h.toNat))], []⟩ := by
  obtain ⟨W0, rfl⟩ : ∃ W0 : Nat, w = W0 := ⟨w.toNat, by omega⟩
  obtain ⟨H0, rfl⟩ : ∃ H0 : Nat, h = H0 := ⟨h.toNat, by omega⟩
  rw [Int.toNat_natCast, Int.toNat_natCast]
  refine Gives.by rfl rfl (W.seq ?_)
  repeat' first | ((with_reducible apply WR.mv); exact rfl; exact rfl) | ((with_reducible apply WR.nil)) | (with_reducible refine andThen_n ?_) | (with_reducible refine W.seq ?_) | (with_reducible refine W.region ?_) | (with_reducible refine W.block ?_)
  (refine (?_ : W _ (Code.loop _) _ _))
  (refine W.loopM [0, 1] [] [] (fun zz : (Nat) × (List UInt8) => match zz with | (y, T) => (H0 - y : Nat)) (fun zz : (Nat) × (List UInt8) => match zz with | (y, T) => (y ≤ H0 ∧ T = rowsT q W0 y ∧ T.length ≤ 50 * y : Prop)) (fun zz : (Nat) × (List UInt8) => match zz with | (y, T) => [(5, .a (.d (.s (.str T)))), (6, .a (.d (.s (.int .i8 (y : Nat)))))]) (fun zz : (Nat) × (List UInt8) => match zz with | (y, T) => []) (0, []) (⟨by omega, rfl, by simp⟩) ⟨rfl, rfl, trivial⟩ trivial trivial ?_)
  rintro ⟨y, T⟩ σ hP hN; dsimp only [setL, putL] at hP ⊢
  obtain ⟨hy, hT, hl⟩ := hP
  by_cases hyl : y < H0
  · repeat' first | ((with_reducible apply WR.mv); exact rfl; exact rfl) | ((with_reducible apply WR.lss); exact rfl; exact rfl; exact rfl) | ((with_reducible apply WR.ldd); exact rfl; exact rfl; (first | exact lawn_h (by assumption))) | ((with_reducible apply WR.nc); exact rfl; exact rfl) | ((with_reducible apply WR.nil)) | (with_reducible refine andThen_n ?_) | (with_reducible refine W.seq ?_) | (with_reducible refine W.region ?_) | (with_reducible refine W.skip ?_) | (with_reducible refine W.block ?_) | ((with_reducible apply W.condT); exact rfl) | (intro hb; try (exfalso; omega)) | ((with_reducible apply WR.fa); exact rfl; exact rfl)
    (refine (?_ : W _ (Code.loop _) _ _))
    (refine W.loopM [0, 1, 6] [] [] (fun zz : (Nat) × (List UInt8) => match zz with | (x, U) => (W0 - x : Nat)) (fun zz : (Nat) × (List UInt8) => match zz with | (x, U) => (x ≤ W0 ∧ U = T ++ rowT q y x ∧ U.length ≤ 50 * y + 3 * x : Prop)) (fun zz : (Nat) × (List UInt8) => match zz with | (x, U) => [(5, .a (.d (.s (.str U)))), (7, .a (.d (.s (.int .i8 (x : Nat)))))]) (fun zz : (Nat) × (List UInt8) => match zz with | (x, U) => []) (0, T) (⟨by omega, by simp [rowT, Lib.join_nil], by omega⟩) ⟨rfl, rfl, trivial⟩ trivial trivial ?_)
    rintro ⟨x, U⟩ σ hP hN; dsimp only [setL, putL] at hP ⊢
    obtain ⟨hx, hU, hl2⟩ := hP
    by_cases hxl : x < W0
    · have hqb := hq (10 * ((y : Nat) : Int).toNat + ((x : Nat) : Int).toNat) (by omega)
      have hsu := rowT_succ q y x
      have hd1 := fun hn : ¬ q (10 * ((y : Nat) : Int).toNat + ((x : Nat) : Int).toNat) < 0 => decimal_gives (q (10 * ((y : Nat) : Int).toNat + ((x : Nat) : Int).toNat)) (by omega)
      have hd2 : q (10 * ((y : Nat) : Int).toNat + ((x : Nat) : Int).toNat) < 0 → Gives G 241 [ai .i64 (IntKind.i64.wrap (0 - q (10 * ((y : Nat) : Int).toNat + ((x : Nat) : Int).toNat)))] ⟨[.s (.str [UInt8.ofNat (48 + (-q (10 * ((y : Nat) : Int).toNat + ((x : Nat) : Int).toNat)).toNat)])], []⟩ := fun hn => by
        rw [i64_in _ (by omega), Int.zero_sub]; exact decimal_gives _ (by omega)
      repeat' first | ((with_reducible apply WR.c_s (f := 241) (fn := Code.f241)); exact rfl; exact rfl; exact rfl; (first | exact rfl); (focus ((repeat' first | exact args_nil | apply args_d | exact toD_d rfl | exact rfl); done)); exact hd1 (by assumption)) | ((with_reducible apply WR.c_s (f := 241) (fn := Code.f241)); exact rfl; exact rfl; exact rfl; (first | exact rfl); (focus ((repeat' first | exact args_nil | apply args_d | exact toD_d rfl | exact rfl); done)); exact hd2 (by assumption)) | ((with_reducible apply WR.mv); exact rfl; exact rfl) | ((with_reducible apply WR.sad); exact rfl; exact rfl; exact rfl; (first | (simp only [List.length_append, List.length_cons, List.length_nil, List.length_map]; omega))) | ((with_reducible apply WR.ad); exact rfl; exact rfl; exact rfl; (first | exact i64_in _ (by omega) | exact i8_in _ (by omega))) | ((with_reducible apply WR.lss); exact rfl; exact rfl; exact rfl) | ((with_reducible apply WR.ldd); exact rfl; exact rfl; (first | exact lawn_w (by assumption) | exact lev_c (by assumption) (by omega))) | ((with_reducible apply WR.nc); exact rfl; exact rfl) | ((with_reducible apply WR.nil)) | (with_reducible refine andThen_n ?_) | (with_reducible refine inB_n ?_) | (with_reducible refine W.seq ?_) | (with_reducible refine W.region ?_) | (with_reducible refine W.skip ?_) | (with_reducible refine W.block ?_) | ((with_reducible apply W.condT); exact rfl) | ((with_reducible apply W.condF); exact rfl) | (intro hb; try (exfalso; omega)) | ((with_reducible apply WR.iad); exact rfl; exact rfl; exact rfl; omega) | ((with_reducible apply WR.iar); exact rfl; exact rfl; exact rfl; omega) | ((with_reducible apply WR.fa); exact rfl; exact rfl) | ((with_reducible apply WR.gtr); exact rfl; exact rfl; exact rfl) | ((with_reducible apply WR.cv); exact rfl; exact rfl; (first | exact i64_in _ (by omega) | exact i8_in _ (by omega))) | ((with_reducible apply WR.un); exact rfl; exact rfl)
      all_goals
        by_cases h0 : x = 0
      all_goals first
        | (exfalso; omega)
        | (first | rw [if_pos h0] at hsu | rw [if_neg h0] at hsu
           unfold itemT at hsu
           first
             | (rw [if_neg (by simp only [Int.toNat_natCast] at *; omega)] at hsu
                first
                  | ((refine W.nxt (x + 1, U ++ [UInt8.ofNat (48 + (q (10 * ((y : Nat) : Int).toNat + ((x : Nat) : Int).toNat)).toNat)]) (by first | omega | (dsimp only; omega)) ?_ ⟨rfl, rfl, trivial⟩ trivial ⟨rfl, rfl, rfl, trivial⟩ trivial trivial); (try dsimp only)
                     refine ⟨by omega, ?_, by simp only [List.length_append, List.length_cons, List.length_nil]; omega⟩
                     rw [hsu, hU]; subst h0; simp [rowT, Lib.join_nil])
                  | ((refine W.nxt (x + 1, U ++ [32] ++ [UInt8.ofNat (48 + (q (10 * ((y : Nat) : Int).toNat + ((x : Nat) : Int).toNat)).toNat)]) (by first | omega | (dsimp only; omega)) ?_ ⟨rfl, rfl, trivial⟩ trivial ⟨rfl, rfl, rfl, trivial⟩ trivial trivial); (try dsimp only)
                     refine ⟨by omega, ?_, by simp only [List.length_append, List.length_cons, List.length_nil]; omega⟩
                     rw [hsu, hU]; simp))
             | (rw [if_pos (by simp only [Int.toNat_natCast] at *; omega)] at hsu
                first
                  | ((refine W.nxt (x + 1, U ++ [45] ++ [UInt8.ofNat (48 + (-q (10 * ((y : Nat) : Int).toNat + ((x : Nat) : Int).toNat)).toNat)]) (by first | omega | (dsimp only; omega)) ?_ ⟨rfl, rfl, trivial⟩ trivial ⟨rfl, rfl, rfl, trivial⟩ trivial trivial); (try dsimp only)
                     refine ⟨by omega, ?_, by simp only [List.length_append, List.length_cons, List.length_nil]; omega⟩
                     rw [hsu, hU]; subst h0; simp [rowT, Lib.join_nil])
                  | ((refine W.nxt (x + 1, U ++ [32] ++ [45] ++ [UInt8.ofNat (48 + (-q (10 * ((y : Nat) : Int).toNat + ((x : Nat) : Int).toNat)).toNat)]) (by first | omega | (dsimp only; omega)) ?_ ⟨rfl, rfl, trivial⟩ trivial ⟨rfl, rfl, rfl, trivial⟩ trivial trivial); (try dsimp only)
                     refine ⟨by omega, ?_, by simp only [List.length_append, List.length_cons, List.length_nil]; omega⟩
                     rw [hsu, hU]; simp)))
    · obtain rfl : x = W0 := by omega
      repeat' first | ((with_reducible apply WR.mv); exact rfl; exact rfl) | ((with_reducible apply WR.sad); exact rfl; exact rfl; exact rfl; (first | (simp only [List.length_append, List.length_cons, List.length_nil, List.length_map]; omega))) | ((with_reducible apply WR.ad); exact rfl; exact rfl; exact rfl; (first | exact i8_in _ (by omega))) | ((with_reducible apply WR.lss); exact rfl; exact rfl; exact rfl) | ((with_reducible apply WR.ldd); exact rfl; exact rfl; (first | exact lawn_w (by assumption))) | ((with_reducible apply WR.nc); exact rfl; exact rfl) | ((with_reducible apply WR.nil)) | (with_reducible refine andThen_n ?_) | (with_reducible refine andThen_x ?_) | (with_reducible refine inB_n ?_) | (with_reducible refine inB_x ?_) | (with_reducible refine W.seq ?_) | (with_reducible refine W.region ?_) | (with_reducible refine W.exit ?_) | ((with_reducible apply W.condF); exact rfl) | (intro hb; try (exfalso; omega)) | ((with_reducible apply WR.fa); exact rfl; exact rfl)
      (refine W.nxt (y + 1, U ++ [10]) (by first | omega | (dsimp only; omega)) ?_ ⟨rfl, rfl, trivial⟩ trivial ⟨rfl, rfl, trivial⟩ trivial trivial); (try dsimp only)
      exact ⟨by omega, by rw [hU, hT]; rfl, by simp only [List.length_append, List.length_cons, List.length_nil]; omega⟩
  · obtain rfl : y = H0 := by omega
    rw [hT]
    repeat' first | ((with_reducible apply WR.mv); exact rfl; exact rfl) | ((with_reducible apply WR.lss); exact rfl; exact rfl; exact rfl) | ((with_reducible apply WR.ldd); exact rfl; exact rfl; (first | exact lawn_h (by assumption))) | ((with_reducible apply WR.nc); exact rfl; exact rfl) | ((with_reducible apply WR.nil)) | (with_reducible refine andThen_n ?_) | (with_reducible refine andThen_x ?_) | (with_reducible refine inB_x ?_) | (with_reducible refine W.seq ?_) | (with_reducible refine W.region ?_) | (with_reducible refine W.ret ?_) | (with_reducible refine W.exit ?_) | ((with_reducible apply W.condF); exact rfl) | ((with_reducible apply Done.f); (intro hh hh2; exact (nomatch hh2)); (focus ((repeat' first | exact all_nil | apply all_cons | exact res_tmp rfl); done)); (focus ((repeat' first | exact all_nil | apply all_cons | exact retOf_s rfl); done)); exact rfl; (focus ((repeat' first | exact outs_nil | apply outs_d); done))) | (intro hb; try (exfalso; omega)) | ((with_reducible apply WR.fa); exact rfl; exact rfl)
    rfl
theorem levOk_b (h0 : LevOk w h g q) : (1 ≤ w ∧ w ≤ 10 ∧ 1 ≤ h ∧ h ≤ 10) ∧ ∀ k, k < 100 → -9 ≤ q k ∧ q k ≤ 9 :=
  ⟨⟨h0.1.1.1, h0.1.1.2, h0.1.2.1.1, h0.1.2.1.2⟩, fun k hk => by have := h0.2 k hk; exact ⟨this.1.1, this.1.2⟩⟩
/-- The text of levels that are valid. -/
def levText (w h : Int) (g q : Nat → Int) : List UInt8 := if LevOk w h g q then rowsT q w.toNat h.toNat else []
def linT (q : Nat → Int) (W i : Nat) : List UInt8 := rowsT q W (i / W) ++ (if i % W = 0 then [] else rowT q (i / W) (i % W) ++ [32])
theorem div_step {W i : Nat} (hW : 0 < W) : (i % W + 1 = W ∧ (i + 1) / W = i / W + 1 ∧ (i + 1) % W = 0) ∨ (i % W + 1 < W ∧ (i + 1) / W = i / W ∧ (i + 1) % W = i % W + 1) := by
  have h1 := Nat.mod_lt i hW
  have h2 := Nat.div_add_mod i W
  by_cases h : i % W + 1 = W
  · refine .inl ⟨h, ?_⟩
    have e : i + 1 = W * (i / W + 1) := by rw [Nat.mul_add, Nat.mul_one]; omega
    rw [e]
    exact ⟨Nat.mul_div_cancel_left _ hW, Nat.mul_mod_right ..⟩
  · refine .inr ⟨by omega, ?_⟩
    have e : i + 1 = W * (i / W) + (i % W + 1) := by omega
    have h3 : i % W + 1 < W := by omega
    have a1 : (W * (i / W) + (i % W + 1)) / W = i / W := by rw [Nat.mul_add_div hW, Nat.div_eq_of_lt h3]; rfl
    have a2 : (W * (i / W) + (i % W + 1)) % W = i % W + 1 := by rw [Nat.mul_add_mod, Nat.mod_eq_of_lt h3]
    rw [← e] at a1 a2
    exact ⟨a1, a2⟩
theorem linT_succ (q : Nat → Int) {W : Nat} (hW : 0 < W) (i : Nat) : linT q W (i + 1) = linT q W i ++ itemT (q (10 * (i / W) + i % W)) ++ (if i % W + 1 = W then [10] else [32]) := by
  have hr := rowT_succ q (i / W) (i % W)
  rcases div_step (i := i) hW with ⟨h1, h2, h3⟩ | ⟨h1, h2, h3⟩
  · unfold linT
    rw [h2, h3, if_pos rfl, List.append_nil, if_pos h1]
    rw [h1] at hr
    show rowsT q W (i / W) ++ rowT q (i / W) W ++ [10] = _
    rw [hr]
    split <;> simp
  · unfold linT
    rw [h2, h3, if_neg (show ¬ i % W + 1 = 0 by omega), if_neg (show ¬ i % W + 1 = W by omega), hr]
    split <;> simp
theorem linT_len (q : Nat → Int) {W : Nat} (hW : 0 < W) : ∀ i, (linT q W i).length ≤ 3 * i
  | 0 => by unfold linT; rw [Nat.zero_div, Nat.zero_mod, if_pos rfl]; simp [rowsT]
  | i + 1 => by
    have ih := linT_len q hW i
    have hi := itemT_len (q (10 * (i / W) + i % W))
    rw [linT_succ q hW i, List.length_append, List.length_append]
    split <;> simp <;> omega
theorem gC_all {W0 H0 i : Nat} (h : i < (allC (W0 : Int) (H0 : Int)).length) : gC (allC (W0 : Int) (H0 : Int)) i = (((i % W0 : Nat) : Int), ((i / W0 : Nat) : Int)) := by
  have e := gC_get h
  unfold allC cellsTo at e h
  rw [List.getElem?_map, List.getElem?_range (by simpa using h)] at e
  simp only [Int.toNat_natCast, Option.map_some, Option.some.injEq] at e
  exact e.symm
theorem levText_gives (l : IsLawn w h g cs) (v : IsLev q qs) : Gives G 220 [aa cs, aa qs] ⟨[.s (.str (levText w h g q))], []⟩ := by
  unfold levText
  by_cases h0 : LevOk w h g q
  · obtain ⟨hs, hq⟩ := levOk_b h0
    have hal := all_gives l (by omega)
    have hAl := allC_len (w := w) (h := h) (by omega)
    have hmem : ∀ e ∈ allC w h, Has w h e.1 e.2 := fun e he => allC_mem he
    obtain ⟨W0, rfl⟩ : ∃ W0 : Nat, w = W0 := ⟨w.toNat, by omega⟩
    obtain ⟨H0, rfl⟩ : ∃ H0 : Nat, h = H0 := ⟨h.toNat, by omega⟩
    have hlen : (allC (W0 : Int) (H0 : Int)).length = W0 * H0 := by unfold allC; rw [cellsTo_len, Int.toNat_natCast, Int.toNat_natCast]
    have hg := fun i (hi : i < (allC (W0 : Int) (H0 : Int)).length) => gC_all (W0 := W0) (H0 := H0) hi
    rw [if_pos h0, Int.toNat_natCast, Int.toNat_natCast]
    have hfin : linT q W0 (W0 * H0) = rowsT q W0 H0 := by
      unfold linT
      rw [Nat.mul_div_cancel_left _ (by omega), Nat.mul_mod_right, if_pos rfl, List.append_nil]
    rw [← hfin, ← hlen]
    generalize allC (W0 : Int) (H0 : Int) = A at hal hAl hmem hg ⊢
    refine Gives.by rfl rfl (W.seq ?_)
    repeat' first | ((with_reducible apply WR.c_o (f := 33) (fn := Code.f33)); exact rfl; exact rfl; exact rfl; (first | exact rfl); (focus ((repeat' first | exact args_nil | apply args_d | exact toD_d rfl | exact all_nil | apply all_cons | exact rfl); done)); exact hal; (first | exact rfl)) | ((with_reducible apply WR.c_p (f := 94) (fn := Code.f94)); exact rfl; exact rfl; exact rfl; (first | exact rfl); (focus ((repeat' first | exact args_nil | apply args_d | exact toD_d rfl | exact all_nil | apply all_cons | exact rfl); done)); exact validLevels_gives (by assumption) (by assumption)) | ((with_reducible apply WR.mv); exact rfl; exact rfl) | ((with_reducible apply WR.ld); exact rfl; exact rfl; exact rfl; (first | exact loadC_all (IsLawn.len (by assumption)) | exact loadC_all (IsLev.len (by assumption)))) | ((with_reducible apply WR.nil)) | (with_reducible refine andThen_n ?_) | (with_reducible refine andThen_r ?_) | (with_reducible refine W.seq ?_) | (with_reducible refine W.region ?_) | (with_reducible refine W.skip ?_) | (with_reducible refine W.ret ?_) | (with_reducible refine W.block ?_) | ((with_reducible apply W.condT); exact rfl) | ((with_reducible apply W.condF); exact rfl) | ((with_reducible apply Done.f); (intro hh hh2; exact (nomatch hh2)); (focus ((repeat' first | exact all_nil | apply all_cons | exact res_tmp rfl | exact rfl); done)); (focus ((repeat' first | exact all_nil | apply all_cons | exact retOf_s rfl | exact rfl); done)); exact rfl; (focus ((repeat' first | exact outs_nil | apply outs_d | exact rfl); done))) | (intro hb; try (exfalso; omega)) | ((with_reducible apply WR.bx); exact rfl; exact rfl; exact (by first | exact IsLev.len (by assumption) | exact IsLawn.len (by assumption) | exact rfl); (first | exact rfl)) | ((with_reducible apply WR.un); exact rfl; exact rfl) | ((with_reducible apply WR.le); exact rfl; exact rfl)
    all_goals try (exfalso; exact absurd h0 (by assumption))
    (refine (?_ : W _ (Code.loop _) _ _))
    (refine W.loopM [2, 3, 13, 14] [2, 3, 13] [7] (fun zz : (Nat) × (List UInt8) => match zz with | (i, T) => (A.length - i : Nat)) (fun zz : (Nat) × (List UInt8) => match zz with | (i, T) => (i ≤ A.length ∧ T = linT q W0 i : Prop)) (fun zz : (Nat) × (List UInt8) => match zz with | (i, T) => [(5, .a (.d (.s (.str T)))), (15, .a (.d (.s (.int .i64 (i : Nat)))))]) (fun zz : (Nat) × (List UInt8) => match zz with | (i, T) => []) (0, []) (⟨by omega, by unfold linT; rw [Nat.zero_div, Nat.zero_mod, if_pos rfl]; rfl⟩) ⟨rfl, rfl, trivial⟩ trivial ⟨(by (repeat' first | exact rfl | assumption | (with_reducible apply noPar_set) | ((with_reducible apply noPar_puto); exact rfl) | (with_reducible apply noPar_put) | (with_reducible apply noPar_putv) | (with_reducible apply noPar_kill) | ((with_reducible apply noPar_mix); exact rfl) | ((with_reducible apply noPar_mixT); exact rfl)); done), trivial⟩ ?_)
    rintro ⟨i, T⟩ σ hP hN; dsimp only [setL, putL] at hP ⊢; obtain ⟨n7, hN⟩ := hN
    obtain ⟨hi, hT⟩ := hP
    by_cases hil : i < A.length
    · have hH := hmem _ (gC_mem hil)
      have hgi := hg i hil
      have hx : (gC A i).1 = ((i % W0 : Nat) : Int) := by rw [hgi]
      have hy : (gC A i).2 = ((i / W0 : Nat) : Int) := by rw [hgi]
      have hsu := linT_succ q (W := W0) (by omega) i
      have hTl := linT_len q (W := W0) (by omega) i
      rw [← hT] at hsu hTl
      have hkk : 10 * (gC A i).2.toNat + (gC A i).1.toNat = 10 * (i / W0) + i % W0 := by rw [hx, hy, Int.toNat_natCast, Int.toNat_natCast]
      have hqb := hq (10 * (gC A i).2.toNat + (gC A i).1.toNat) (by omega)
      have hd := dec_item (q (10 * (gC A i).2.toNat + (gC A i).1.toNat)) hqb
      have hil2 := itemT_len (q (10 * (gC A i).2.toNat + (gC A i).1.toNat))
      rw [← hkk] at hsu
      repeat' first | ((with_reducible apply WR.c_s (f := 230) (fn := Code.f230)); exact rfl; exact rfl; exact rfl; (first | exact rfl); (focus ((repeat' first | exact args_nil | apply args_d | exact toD_d rfl | exact rfl); done)); exact hd) | ((with_reducible apply WR.c_s (f := 97) (fn := Code.f97)); exact rfl; exact rfl; exact rfl; (first | exact rfl); (focus ((repeat' first | exact args_nil | apply args_d | exact toD_d rfl | exact rfl); done)); exact of_gives (by assumption) _ _ (by omega)) | ((with_reducible apply WR.mv); exact rfl; exact rfl) | ((with_reducible apply WR.ld); exact rfl; exact rfl; exact rfl; (first | exact ld2 | exact lawn_w (by assumption) | exact loadC_all (IsLev.len (by assumption)) | exact ldC (by first | omega))) | ((with_reducible apply WR.lx); exact rfl; exact rfl) | ((with_reducible apply WR.sad); exact rfl; exact rfl; exact rfl; (first | omega | (simp only [List.length_append, List.length_cons, List.length_nil, List.length_map]; omega))) | ((with_reducible apply WR.ad); exact rfl; exact rfl; exact rfl; (first | exact i64_in _ (by omega) | assumption | exact i8_in _ (by omega))) | ((with_reducible apply WR.nil)) | (with_reducible refine andThen_n ?_) | (with_reducible refine inB_n ?_) | (with_reducible refine W.seq ?_) | (with_reducible refine W.region ?_) | (with_reducible refine W.skip ?_) | (with_reducible refine W.block ?_) | ((with_reducible apply W.condT); exact rfl) | ((with_reducible apply W.condF); exact rfl) | (intro hb; try (exfalso; omega)) | ((with_reducible apply WR.fa); exact rfl; exact rfl) | ((with_reducible apply WR.lss); exact rfl; exact rfl; exact rfl) | ((with_reducible apply WR.eql); exact rfl; exact rfl; exact rfl) | ((with_reducible apply WR.sb); exact rfl; exact rfl; exact rfl; (first | exact i64_in _ (by omega) | assumption | exact i8_in _ (by omega))) | ((with_reducible apply WR.isn); exact rfl; exact rfl; exact rfl; omega) | ((with_reducible apply WR.al); exact rfl; (first | exact rfl | assumption)) | ((with_reducible apply WR.st); exact rfl; exact rfl; exact rfl; exact st2)
      all_goals first
        | (rw [if_pos (by omega)] at hsu
           (refine W.nxt (i + 1, T ++ itemT (q (10 * (gC A i).2.toNat + (gC A i).1.toNat)) ++ [10]) (by first | omega | (dsimp only; omega)) ?_ ⟨rfl, rfl, trivial⟩ trivial ⟨rfl, rfl, rfl, rfl, trivial⟩ ⟨rfl, rfl, rfl, trivial⟩ ⟨(by (repeat' first | exact rfl | assumption | (with_reducible apply noPar_set) | ((with_reducible apply noPar_puto); exact rfl) | (with_reducible apply noPar_put) | (with_reducible apply noPar_putv) | (with_reducible apply noPar_kill) | ((with_reducible apply noPar_mix); exact rfl) | ((with_reducible apply noPar_mixT); exact rfl)); done), trivial⟩); (try dsimp only)
           exact ⟨by omega, hsu.symm⟩)
        | (rw [if_neg (by omega)] at hsu
           (refine W.nxt (i + 1, T ++ itemT (q (10 * (gC A i).2.toNat + (gC A i).1.toNat)) ++ [32]) (by first | omega | (dsimp only; omega)) ?_ ⟨rfl, rfl, trivial⟩ trivial ⟨rfl, rfl, rfl, rfl, trivial⟩ ⟨rfl, rfl, rfl, trivial⟩ ⟨(by (repeat' first | exact rfl | assumption | (with_reducible apply noPar_set) | ((with_reducible apply noPar_puto); exact rfl) | (with_reducible apply noPar_put) | (with_reducible apply noPar_putv) | (with_reducible apply noPar_kill) | ((with_reducible apply noPar_mix); exact rfl) | ((with_reducible apply noPar_mixT); exact rfl)); done), trivial⟩); (try dsimp only)
           exact ⟨by omega, hsu.symm⟩)
    · obtain rfl : i = A.length := by omega
      rw [← hT]
      repeat' first | ((with_reducible apply WR.mv); exact rfl; exact rfl) | ((with_reducible apply WR.nil)) | (with_reducible refine andThen_n ?_) | (with_reducible refine andThen_x ?_) | (with_reducible refine inB_x ?_) | (with_reducible refine W.seq ?_) | (with_reducible refine W.region ?_) | (with_reducible refine W.ret ?_) | (with_reducible refine W.exit ?_) | ((with_reducible apply W.condF); exact rfl) | ((with_reducible apply Done.f); (intro hh hh2; exact (nomatch hh2)); (focus ((repeat' first | exact all_nil | apply all_cons | exact res_tmp rfl); done)); (focus ((repeat' first | exact all_nil | apply all_cons | exact retOf_s rfl); done)); exact rfl; (focus ((repeat' first | exact outs_nil | apply outs_d); done))) | (intro hb; try (exfalso; omega)) | ((with_reducible apply WR.lss); exact rfl; exact rfl; exact rfl)
      rfl
  · rw [if_neg h0]
    refine Gives.by rfl rfl (W.seq ?_)
    repeat' first | ((with_reducible apply WR.c_p (f := 94) (fn := Code.f94)); exact rfl; exact rfl; exact rfl; (first | exact rfl); (focus ((repeat' first | exact args_nil | apply args_d | exact toD_d rfl | exact all_nil | apply all_cons | exact rfl); done)); exact validLevels_gives (by assumption) (by assumption)) | ((with_reducible apply WR.mv); exact rfl; exact rfl) | ((with_reducible apply WR.ld); exact rfl; exact rfl; exact rfl; (first | exact loadC_all (IsLawn.len (by assumption)) | exact loadC_all (IsLev.len (by assumption)))) | ((with_reducible apply WR.nil)) | (with_reducible refine andThen_n ?_) | (with_reducible refine andThen_r ?_) | (with_reducible refine W.seq ?_) | (with_reducible refine W.region ?_) | (with_reducible refine W.skip ?_) | (with_reducible refine W.ret ?_) | ((with_reducible apply W.condT); exact rfl) | ((with_reducible apply W.condF); exact rfl) | ((with_reducible apply Done.f); (intro hh hh2; exact (nomatch hh2)); (focus ((repeat' first | exact all_nil | apply all_cons | exact res_tmp rfl | exact rfl); done)); (focus ((repeat' first | exact all_nil | apply all_cons | exact retOf_s rfl | exact rfl); done)); exact rfl; (focus ((repeat' first | exact outs_nil | apply outs_d | exact rfl); done))) | (intro hb; try (exfalso; omega)) | ((with_reducible apply WR.bx); exact rfl; exact rfl; exact (by first | exact IsLev.len (by assumption) | exact IsLawn.len (by assumption) | exact rfl); (first | exact rfl)) | ((with_reducible apply WR.un); exact rfl; exact rfl)
    all_goals first | (exfalso; exact h0 (by assumption)) | rfl
end Go.DM
