/- Weeds: rows of bits. -/
import Derived.Test.YtimkdadlmolnaaaGreatDoorK402Beside
import Derived.Test.YtimkdadlmolnaaaGreatDoorK402RowsText
import Derived.Test.YtimkdadlmolnaaaGreatDoorK402Near
set_option linter.unusedSectionVars false
set_option linter.unusedSimpArgs false
set_option linter.unusedVariables false
set_option maxHeartbeats 4000000
namespace Go.DM
variable [Tok]
open Go.IntWalk
variable {w h : Int} {g : Nat → Int} {cs : List S}
abbrev wR (q : Nat → Int) : List S := rowI .u16 10 q
def WB (q : Nat → Int) : Prop := ∀ k, k < 10 → 0 ≤ q k ∧ q k < 65536
def Soil (w h : Int) (g : Nat → Int) (x y : Int) : Prop := Has w h x y ∧ (g (10 * y.toNat + x.toNat) = 0 ∨ g (10 * y.toNat + x.toNat) = 1)
instance (x y : Int) : Decidable (Soil w h g x y) := inferInstanceAs (Decidable (_ ∧ _))
theorem div_b {n : Int} (hn : 0 ≤ n ∧ n < 65536) (j : Nat) : 0 ≤ n / 2 ^ j ∧ n / 2 ^ j < 65536 := by
  obtain ⟨m, rfl⟩ : ∃ m : Nat, n = m := ⟨n.toNat, by omega⟩
  have hp : ((2 : Int) ^ j) = ((2 ^ j : Nat) : Int) := by push_cast; rfl
  have e : ((m : Int) / ((2 ^ j : Nat) : Int)) = ((m / 2 ^ j : Nat) : Int) := by push_cast; rfl
  rw [hp, e]
  have := Nat.div_le_self m (2 ^ j)
  exact ⟨Int.natCast_nonneg _, (Int.ofNat_lt.2 (by omega) : ((m / 2 ^ j : Nat) : Int) < ((65536 : Nat) : Int))⟩
theorem soil_gives (l : IsLawn w h g cs) (x y : Int) (hs : w ≤ 10 ∧ h ≤ 10) : Gives G 318 [aa cs, ac x y] (rb (decide (Soil w h g x y))) := by
  refine Gives.by rfl rfl (W.seq ?_)
  repeat' first | ((with_reducible apply WR.c_p (f := 65) (fn := Code.f65)); exact rfl; exact rfl; exact rfl; (exact rfl); (focus ((repeat' first | exact args_nil | apply args_d | exact toD_d rfl | exact all_nil | apply all_cons | exact rfl); done)); exact is_gives (by assumption) _ _ _ (by omega)) | ((with_reducible apply WR.ld); exact rfl; exact rfl; exact rfl; (first | exact ld2 | exact loadC_all (IsLawn.len (by assumption)))) | ((with_reducible apply WR.mv); exact rfl; exact rfl) | ((with_reducible apply WR.nil)) | (with_reducible refine andThen_n ?_) | (with_reducible refine W.seq ?_) | (with_reducible refine W.region ?_) | (with_reducible refine W.ret ?_) | ((with_reducible apply Done.f); (intro hh hh2; exact (nomatch hh2)); (focus ((repeat' first | exact all_nil | apply all_cons | exact res_tmp rfl | exact rfl); done)); (focus ((repeat' first | exact all_nil | apply all_cons | exact retOf_s rfl | exact rfl); done)); exact rfl; (focus ((repeat' first | exact outs_nil | apply outs_d | exact rfl); done))) | (intro hb; try (exfalso; omega)) | ((with_reducible apply WR.bx); exact rfl; exact rfl; exact (by first | exact IsLawn.len (by assumption) | exact rfl); (exact rfl)) | ((with_reducible apply WR.off); exact rfl) | ((with_reducible apply WR.pk); exact rfl; exact rfl)
  · have hb' : Is w h g 0 x y := by assumption
    exact rb_t ⟨hb'.1, .inl hb'.2⟩
  · have hb' : Is w h g 1 x y := by assumption
    exact rb_t ⟨hb'.1, .inr hb'.2⟩
  · exact rb_f (fun hh => hh.2.elim (fun e => (by assumption : ¬ Is w h g 0 x y) ⟨hh.1, e⟩) (fun e => (by assumption : ¬ Is w h g 1 x y) ⟨hh.1, e⟩))
theorem l07Soil_gives (l : IsLawn w h g cs) (x y : Int) (hs : w ≤ 10 ∧ h ≤ 10) (hb : -128 ≤ x ∧ x ≤ 127 ∧ -128 ≤ y ∧ y ≤ 127) : Gives G 316 [ar cs, ac x y] (rb (decide (Soil w h g x y))) := by
  refine Gives.by rfl rfl (W.seq ?_)
  repeat' first | ((with_reducible apply WR.c_p (f := 50) (fn := Code.f50)); exact rfl; exact rfl; exact rfl; (exact rfl); (focus ((repeat' first | exact args_nil | apply args_d | exact toD_d rfl | exact all_nil | apply all_cons | exact rfl); done)); exact l01Is_gives (by assumption) _ _ (by omega)) | ((with_reducible apply WR.c_s (f := 61) (fn := Code.f61)); exact rfl; exact rfl; exact rfl; (exact rfl); (focus ((repeat' first | exact args_nil | apply args_d | exact toD_d rfl | exact all_nil | apply all_cons | exact rfl); done)); exact l01At_gives (by assumption) _ _ (by omega)) | ((with_reducible apply WR.mv); exact rfl; exact rfl) | ((with_reducible apply WR.off); exact rfl) | ((with_reducible apply WR.ld); exact rfl; exact rfl; exact rfl; (first | exact ld2)) | ((with_reducible apply WR.nil)) | (with_reducible refine andThen_n ?_) | (with_reducible refine W.seq ?_) | (with_reducible refine W.region ?_) | (with_reducible refine W.ret ?_) | ((with_reducible apply Done.f); (intro hh hh2; exact (nomatch hh2)); (focus ((repeat' first | exact all_nil | apply all_cons | exact res_tmp rfl | exact rfl); done)); (focus ((repeat' first | exact all_nil | apply all_cons | exact retOf_s rfl | exact rfl); done)); exact rfl; (focus ((repeat' first | exact outs_nil | apply outs_d | exact rfl); done))) | (intro hb; try (exfalso; omega)) | ((with_reducible apply WR.eql); exact rfl; exact rfl; exact rfl) | ((with_reducible apply WR.pk); exact rfl; exact rfl) | ((with_reducible apply WR.bx); exact rfl; exact rfl; exact (by first | exact rfl); (exact rfl))
  · exact rb_t ⟨by assumption, .inl (by assumption)⟩
  · exact rb_t ⟨by assumption, .inr (by assumption)⟩
  · exact rb_f (fun hh => hh.2.elim (by assumption) (by assumption))
  · exact rb_f (fun hh => (by assumption : ¬ (0 ≤ x ∧ x < w ∧ 0 ≤ y ∧ y < h)) hh.1)
def bitQ (q : Nat → Int) (y x : Nat) : Prop := (q y / 2 ^ x) % 2 = 1
instance (q : Nat → Int) (y x : Nat) : Decidable (bitQ q y x) := inferInstanceAs (Decidable (_ = _))
theorem weedsHas_gives (q : Nat → Int) (hq : WB q) (x y : Int) (hb : 0 ≤ x ∧ x < 16 ∧ 0 ≤ y ∧ y < 10) : Gives G 320 [aa (wR q), ac x y] (rb (decide (bitQ q y.toNat x.toNat))) := by
  have hqy := hq y.toNat (by omega)
  have hdv := div_b hqy x.toNat
  refine Gives.by rfl rfl (W.seq ?_)
  repeat' first | ((with_reducible apply WR.nil)) | (with_reducible refine andThen_n ?_) | (with_reducible refine W.seq ?_) | (with_reducible refine W.region ?_) | (with_reducible refine W.ret ?_) | ((with_reducible apply Done.f); (intro hh hh2; exact (nomatch hh2)); (focus ((repeat' first | exact all_nil | apply all_cons | exact res_tmp rfl | exact rfl); done)); (focus ((repeat' first | exact all_nil | apply all_cons | exact retOf_s rfl | exact rfl); done)); exact rfl; (focus ((repeat' first | exact outs_nil | apply outs_d | exact rfl); done))) | ((with_reducible apply WH.ld); exact rfl; exact rfl; exact rfl; (first | exact ldR (by omega)); exact rfl) | ((with_reducible apply WH.lx); exact rfl; exact rfl; exact rfl) | ((with_reducible apply WH.nil)) | (with_reducible refine W.draw ?_) | (intro hb; try (exfalso; omega)) | ((with_reducible apply WR.bx); exact rfl; exact rfl; exact (by first | exact rowI_len | exact rfl); (exact rfl)) | ((with_reducible apply WH.fa); exact rfl; exact rfl; exact rfl) | ((with_reducible apply WR.mv); exact rfl; exact rfl) | ((with_reducible apply WH.mv); exact rfl; exact rfl; exact rfl) | ((with_reducible apply WH.bsr); exact rfl; exact rfl; exact rfl; omega) | ((with_reducible apply WH.ba1); exact rfl; exact rfl; exact rfl; (first | omega)) | ((with_reducible apply WH.eql); exact rfl; exact rfl; exact rfl) | ((with_reducible apply WH.ia); exact rfl; exact rfl; exact rfl; omega; exact rfl)
  · exact rb_t (by assumption)
  · exact rb_f (by assumption)
def WOk (w h : Int) (g : Nat → Int) (q : Nat → Int) : Prop := ∀ y, y < 10 → ∀ x, x < 16 → bitQ q y x → Soil w h g ((x : Nat) : Int) ((y : Nat) : Int)
instance (q : Nat → Int) : Decidable (WOk w h g q) := inferInstanceAs (Decidable (∀ y, y < 10 → ∀ x, x < 16 → _))
theorem validWeeds_gives (l : IsLawn w h g cs) (hok : LawnOk w h g) (q : Nat → Int) (hq : WB q) : Gives G 303 [aa cs, aa (wR q)] (rb (decide (WOk w h g q))) := by
  have hs : w ≤ 10 ∧ h ≤ 10 := ⟨hok.1.2, hok.2.1.2⟩
  have hV := validLawn_gives l
  rw [decide_eq_true hok] at hV
  refine Gives.by rfl rfl (W.seq ?_)
  repeat' first | ((with_reducible apply WR.mv); exact rfl; exact rfl) | ((with_reducible apply WR.nil)) | (with_reducible refine andThen_n ?_) | (with_reducible refine W.seq ?_) | (with_reducible refine W.region ?_) | (with_reducible refine W.block ?_) | ((with_reducible apply WR.bx); exact rfl; exact rfl; exact (by first | exact IsLawn.len (by assumption) | exact rowI_len | exact rfl); (exact rfl))
  (refine (?_ : W _ (Code.loop _) _ _))
  (refine W.loopM [2, 3] [2, 3] [] (fun y : (Nat) => (10 - y : Nat)) (fun y : (Nat) => (y ≤ 10 ∧ ∀ y', y' < y → ∀ x, x < 16 → bitQ q y' x → Soil w h g ((x : Nat) : Int) ((y' : Nat) : Int) : Prop)) (fun y : (Nat) => [(7, .a (.d (.s (.int .i8 (y : Nat)))))]) (fun y : (Nat) => []) 0 (⟨by omega, fun y' h => by omega⟩) ⟨rfl, trivial⟩ trivial trivial ?_)
  rintro y σ hP hN; dsimp only [setL, putL] at hP ⊢
  obtain ⟨hy, hY⟩ := hP
  by_cases hyl : y < 10
  · have hqy := hq y hyl
    repeat' first | ((with_reducible apply WR.mv); exact rfl; exact rfl) | ((with_reducible apply WR.nil)) | (with_reducible refine andThen_n ?_) | (with_reducible refine W.seq ?_) | (with_reducible refine W.region ?_) | (with_reducible refine W.skip ?_) | (with_reducible refine W.block ?_) | ((with_reducible apply W.condT); exact rfl) | (intro hb; try (exfalso; omega)) | ((with_reducible apply WR.lss); exact rfl; exact rfl; exact rfl)
    (refine (?_ : W _ (Code.loop _) _ _))
    (refine W.loopM [2, 3, 5, 7] [2, 3] [] (fun x : (Nat) => (16 - x : Nat)) (fun x : (Nat) => (x ≤ 16 ∧ ∀ x', x' < x → bitQ q y x' → Soil w h g ((x' : Nat) : Int) ((y : Nat) : Int) : Prop)) (fun x : (Nat) => [(10, .a (.d (.s (.int .i8 (x : Nat)))))]) (fun x : (Nat) => []) 0 (⟨by omega, fun x' h => by omega⟩) ⟨rfl, trivial⟩ trivial trivial ?_)
    rintro x σ hP hN; dsimp only [setL, putL] at hP ⊢
    obtain ⟨hx, hX⟩ := hP
    by_cases hxl : x < 16
    · have hdv := div_b hqy x
      have nxt : (bitQ q y x → Soil w h g ((x : Nat) : Int) ((y : Nat) : Int)) → ∀ x', x' < x + 1 → bitQ q y x' → Soil w h g ((x' : Nat) : Int) ((y : Nat) : Int) := fun hn x' hx' hb => by
        by_cases e : x' = x
        · subst e; exact hn hb
        · exact hX x' (by omega) hb
      repeat' first | ((with_reducible apply WR.c_p (f := 318) (fn := Code.f318)); exact rfl; exact rfl; exact rfl; (exact rfl); (focus ((repeat' first | exact args_nil | apply args_d | exact toD_d rfl | exact all_nil | apply all_cons | exact rfl); done)); exact soil_gives (by assumption) _ _ (by omega)) | ((with_reducible apply WR.mv); exact rfl; exact rfl) | ((with_reducible apply WR.off); exact rfl) | ((with_reducible apply WR.ld); exact rfl; exact rfl; exact rfl; (first | exact loadC_all (IsLawn.len (by assumption)) | exact ldR (by omega))) | ((with_reducible apply WR.nil)) | (with_reducible refine andThen_n ?_) | (with_reducible refine andThen_r ?_) | (with_reducible refine inB_n ?_) | (with_reducible refine inB_r ?_) | (with_reducible refine W.seq ?_) | (with_reducible refine W.region ?_) | (with_reducible refine W.skip ?_) | (with_reducible refine W.ret ?_) | (with_reducible refine W.block ?_) | ((with_reducible apply W.condT); exact rfl) | ((with_reducible apply W.condF); exact rfl) | ((with_reducible apply Done.f); (intro hh hh2; exact (nomatch hh2)); (focus ((repeat' first | exact all_nil | apply all_cons | exact res_tmp rfl | exact rfl); done)); (focus ((repeat' first | exact all_nil | apply all_cons | exact retOf_s rfl | exact rfl); done)); exact rfl; (focus ((repeat' first | exact outs_nil | apply outs_d | exact rfl); done))) | (intro hb; try (exfalso; omega)) | ((with_reducible apply WR.lss); exact rfl; exact rfl; exact rfl) | ((with_reducible apply WR.ad); exact rfl; exact rfl; exact rfl; (first | assumption | exact i8_in _ (by omega))) | ((with_reducible apply WR.bsr); exact rfl; exact rfl; exact rfl; omega) | ((with_reducible apply WR.ba1); exact rfl; exact rfl; exact rfl; (first | assumption)) | ((with_reducible apply WR.eql); exact rfl; exact rfl; exact rfl) | ((with_reducible apply WR.ia); exact rfl; exact rfl; exact rfl; omega) | ((with_reducible apply WR.bC); exact rfl; exact rfl; exact rfl) | ((with_reducible apply WR.un); exact rfl; exact rfl) | ((with_reducible apply WR.pk); exact rfl; exact rfl)
      · (refine W.nxt (x + 1) (by first | omega | (dsimp only; omega)) ?_ ⟨rfl, trivial⟩ trivial ⟨rfl, rfl, rfl, rfl, trivial⟩ ⟨rfl, rfl, trivial⟩ trivial); (try dsimp only)
        exact ⟨by omega, nxt fun _ => by assumption⟩
      · exact rb_f (fun hh => (by assumption : ¬ Soil w h g ((x : Nat) : Int) ((y : Nat) : Int)) (hh y hyl x hxl (by assumption)))
      · (refine W.nxt (x + 1) (by first | omega | (dsimp only; omega)) ?_ ⟨rfl, trivial⟩ trivial ⟨rfl, rfl, rfl, rfl, trivial⟩ ⟨rfl, rfl, trivial⟩ trivial); (try dsimp only)
        exact ⟨by omega, nxt fun hb' => absurd hb' (by assumption)⟩
    · repeat' first | ((with_reducible apply WR.mv); exact rfl; exact rfl) | ((with_reducible apply WR.nil)) | (with_reducible refine andThen_n ?_) | (with_reducible refine andThen_x ?_) | (with_reducible refine inB_n ?_) | (with_reducible refine inB_x ?_) | (with_reducible refine W.seq ?_) | (with_reducible refine W.region ?_) | (with_reducible refine W.exit ?_) | ((with_reducible apply W.condF); exact rfl) | (intro hb; try (exfalso; omega)) | ((with_reducible apply WR.lss); exact rfl; exact rfl; exact rfl) | ((with_reducible apply WR.ad); exact rfl; exact rfl; exact rfl; (first | exact i8_in _ (by omega)))
      (refine W.nxt (y + 1) (by first | omega | (dsimp only; omega)) ?_ ⟨rfl, trivial⟩ trivial ⟨rfl, rfl, trivial⟩ ⟨rfl, rfl, trivial⟩ trivial); (try dsimp only)
      refine ⟨by omega, fun y' hy' x' hx' hb' => ?_⟩
      by_cases e : y' = y
      · subst e; exact hX x' (by omega) hb'
      · exact hY y' (by omega) x' hx' hb'
  · have hall : WOk w h g q := fun y' hy' x hx hb => hY y' (by omega) x hx hb
    repeat' first | ((with_reducible apply WR.c_s (f := 30) (fn := Code.f30)); exact rfl; exact rfl; exact rfl; (exact rfl); (focus ((repeat' first | exact args_nil | apply args_d | exact toD_d rfl | exact all_nil | apply all_cons | exact rfl); done)); exact hV) | ((with_reducible apply WR.mv); exact rfl; exact rfl) | ((with_reducible apply WR.ld); exact rfl; exact rfl; exact rfl; (first | exact loadC_all (IsLawn.len (by assumption)))) | ((with_reducible apply WR.nil)) | (with_reducible refine andThen_n ?_) | (with_reducible refine andThen_x ?_) | (with_reducible refine inB_x ?_) | (with_reducible refine W.seq ?_) | (with_reducible refine W.region ?_) | (with_reducible refine W.ret ?_) | (with_reducible refine W.exit ?_) | ((with_reducible apply W.condF); exact rfl) | ((with_reducible apply Done.f); (intro hh hh2; exact (nomatch hh2)); (focus ((repeat' first | exact all_nil | apply all_cons | exact res_tmp rfl | exact rfl); done)); (focus ((repeat' first | exact all_nil | apply all_cons | exact retOf_s rfl | exact rfl); done)); exact rfl; (focus ((repeat' first | exact outs_nil | apply outs_d | exact rfl); done))) | (intro hb; try (exfalso; omega)) | ((with_reducible apply WR.lss); exact rfl; exact rfl; exact rfl)
    exact rb_t hall
theorem l07Ok_gives (l : IsLawn w h g cs) (hok : LawnOk w h g) (q : Nat → Int) (hq : WB q) : Gives G 300 [ar cs, ar (wR q)] (rb (decide (WOk w h g q))) := by
  have hs : w ≤ 10 ∧ h ≤ 10 := ⟨hok.1.2, hok.2.1.2⟩
  have hV := l01Ok_gives l
  rw [decide_eq_true hok] at hV
  refine Gives.by rfl rfl (W.seq ?_)
  repeat' first | ((with_reducible apply WR.c_s (f := 28) (fn := Code.f28)); exact rfl; exact rfl; exact rfl; (exact rfl); (focus ((repeat' first | exact args_nil | apply args_d | exact toD_d rfl | exact rfl); done)); exact hV) | ((with_reducible apply WR.mv); exact rfl; exact rfl) | ((with_reducible apply WR.nil)) | (with_reducible refine andThen_n ?_) | (with_reducible refine W.seq ?_) | (with_reducible refine W.region ?_) | (with_reducible refine W.skip ?_) | (with_reducible refine W.block ?_) | ((with_reducible apply W.condF); exact rfl) | ((with_reducible apply WR.un); exact rfl; exact rfl)
  (refine (?_ : W _ (Code.loop _) _ _))
  (refine W.loopM [0, 1] [] [] (fun y : (Nat) => (10 - y : Nat)) (fun y : (Nat) => (y ≤ 10 ∧ ∀ y', y' < y → ∀ x, x < 16 → bitQ q y' x → Soil w h g ((x : Nat) : Int) ((y' : Nat) : Int) : Prop)) (fun y : (Nat) => [(5, .a (.d (.s (.int .i8 (y : Nat)))))]) (fun y : (Nat) => []) 0 (⟨by omega, fun y' h => by omega⟩) ⟨rfl, trivial⟩ trivial trivial ?_)
  rintro y σ hP hN; dsimp only [setL, putL] at hP ⊢
  obtain ⟨hy, hY⟩ := hP
  by_cases hyl : y < 10
  · have hqy := hq y hyl
    repeat' first | ((with_reducible apply WR.mv); exact rfl; exact rfl) | ((with_reducible apply WR.nil)) | (with_reducible refine andThen_n ?_) | (with_reducible refine W.seq ?_) | (with_reducible refine W.region ?_) | (with_reducible refine W.skip ?_) | (with_reducible refine W.block ?_) | ((with_reducible apply W.condT); exact rfl) | (intro hb; try (exfalso; omega)) | ((with_reducible apply WR.lss); exact rfl; exact rfl; exact rfl)
    (refine (?_ : W _ (Code.loop _) _ _))
    (refine W.loopM [0, 1, 5] [] [] (fun x : (Nat) => (16 - x : Nat)) (fun x : (Nat) => (x ≤ 16 ∧ ∀ x', x' < x → bitQ q y x' → Soil w h g ((x' : Nat) : Int) ((y : Nat) : Int) : Prop)) (fun x : (Nat) => [(6, .a (.d (.s (.int .i8 (x : Nat)))))]) (fun x : (Nat) => []) 0 (⟨by omega, fun x' h => by omega⟩) ⟨rfl, trivial⟩ trivial trivial ?_)
    rintro x σ hP hN; dsimp only [setL, putL] at hP ⊢
    obtain ⟨hx, hX⟩ := hP
    by_cases hxl : x < 16
    · have hdv := div_b hqy x
      have nxt : (bitQ q y x → Soil w h g ((x : Nat) : Int) ((y : Nat) : Int)) → ∀ x', x' < x + 1 → bitQ q y x' → Soil w h g ((x' : Nat) : Int) ((y : Nat) : Int) := fun hn x' hx' hb => by
        by_cases e : x' = x
        · subst e; exact hn hb
        · exact hX x' (by omega) hb
      have ht : (q y / 2 ^ x).tmod 2 = 1 ↔ bitQ q y x := by
        rw [Int.tmod_eq_emod_of_nonneg hdv.1]; exact Iff.rfl
      repeat' first | ((with_reducible apply WR.c_p (f := 316) (fn := Code.f316)); exact rfl; exact rfl; exact rfl; (exact rfl); (focus ((repeat' first | exact args_nil | apply args_d | exact toD_d rfl | exact all_nil | apply all_cons | exact rfl); done)); exact l07Soil_gives (by assumption) _ _ (by omega) (by omega)) | ((with_reducible apply WR.mv); exact rfl; exact rfl) | ((with_reducible apply WR.off); exact rfl) | ((with_reducible apply WR.nil)) | (with_reducible refine andThen_n ?_) | (with_reducible refine andThen_r ?_) | (with_reducible refine inB_n ?_) | (with_reducible refine inB_r ?_) | (with_reducible refine W.seq ?_) | (with_reducible refine W.region ?_) | (with_reducible refine W.skip ?_) | (with_reducible refine W.ret ?_) | (with_reducible refine W.block ?_) | ((with_reducible apply W.condT); exact rfl) | ((with_reducible apply W.condF); exact rfl) | ((with_reducible apply Done.f); (intro hh hh2; exact (nomatch hh2)); (focus ((repeat' first | exact all_nil | apply all_cons | exact res_tmp rfl | exact rfl); done)); (focus ((repeat' first | exact all_nil | apply all_cons | exact retOf_s rfl | exact rfl); done)); exact rfl; (focus ((repeat' first | exact outs_nil | apply outs_d | exact rfl); done))) | (intro hb; try (exfalso; omega)) | ((with_reducible apply WR.lss); exact rfl; exact rfl; exact rfl) | ((with_reducible apply WR.ad); exact rfl; exact rfl; exact rfl; (first | exact i8_in _ (by omega) | exact u64_in _ (by omega))) | ((with_reducible apply WR.un); exact rfl; exact rfl) | ((with_reducible apply WR.bsr); exact rfl; exact rfl; exact rfl; omega) | ((with_reducible apply WR.rem); exact rfl; exact rfl; exact rfl; omega) | ((with_reducible apply WR.eql); exact rfl; exact rfl; exact rfl) | ((with_reducible apply WR.cv); exact rfl; exact rfl; (first | exact i8_in _ (by omega) | exact u64_in _ (by omega))) | ((with_reducible apply WR.ldd); exact rfl; exact rfl; (first | exact ldR (by omega))) | ((with_reducible apply WR.iar); exact rfl; exact rfl; exact rfl; omega) | ((with_reducible apply WR.bC); exact rfl; exact rfl; exact rfl) | ((with_reducible apply WR.pk); exact rfl; exact rfl) | ((with_reducible apply WR.nc); exact rfl; exact rfl)
      · (refine W.nxt (x + 1) (by first | omega | (dsimp only; omega)) ?_ ⟨rfl, trivial⟩ trivial ⟨rfl, rfl, rfl, trivial⟩ trivial trivial); (try dsimp only)
        exact ⟨by omega, nxt fun _ => by assumption⟩
      · exact rb_f (fun hh => (by assumption : ¬ Soil w h g ((x : Nat) : Int) ((y : Nat) : Int)) (hh y hyl x hxl (ht.1 (by assumption))))
      · (refine W.nxt (x + 1) (by first | omega | (dsimp only; omega)) ?_ ⟨rfl, trivial⟩ trivial ⟨rfl, rfl, rfl, trivial⟩ trivial trivial); (try dsimp only)
        exact ⟨by omega, nxt fun hb' => absurd (ht.2 hb') (by assumption)⟩
    · repeat' first | ((with_reducible apply WR.mv); exact rfl; exact rfl) | ((with_reducible apply WR.nil)) | (with_reducible refine andThen_n ?_) | (with_reducible refine andThen_x ?_) | (with_reducible refine inB_n ?_) | (with_reducible refine inB_x ?_) | (with_reducible refine W.seq ?_) | (with_reducible refine W.region ?_) | (with_reducible refine W.exit ?_) | ((with_reducible apply W.condF); exact rfl) | (intro hb; try (exfalso; omega)) | ((with_reducible apply WR.lss); exact rfl; exact rfl; exact rfl) | ((with_reducible apply WR.ad); exact rfl; exact rfl; exact rfl; (first | exact i8_in _ (by omega)))
      (refine W.nxt (y + 1) (by first | omega | (dsimp only; omega)) ?_ ⟨rfl, trivial⟩ trivial ⟨rfl, rfl, trivial⟩ trivial trivial); (try dsimp only)
      refine ⟨by omega, fun y' hy' x' hx' hb' => ?_⟩
      by_cases e : y' = y
      · subst e; exact hX x' (by omega) hb'
      · exact hY y' (by omega) x' hx' hb'
  · have hall : WOk w h g q := fun y' hy' x hx hb => hY y' (by omega) x hx hb
    repeat' first | ((with_reducible apply WR.mv); exact rfl; exact rfl) | ((with_reducible apply WR.nil)) | (with_reducible refine andThen_n ?_) | (with_reducible refine andThen_x ?_) | (with_reducible refine inB_x ?_) | (with_reducible refine W.seq ?_) | (with_reducible refine W.region ?_) | (with_reducible refine W.ret ?_) | (with_reducible refine W.exit ?_) | ((with_reducible apply W.condF); exact rfl) | ((with_reducible apply Done.f); (intro hh hh2; exact (nomatch hh2)); (focus ((repeat' first | exact all_nil | apply all_cons | exact res_tmp rfl); done)); (focus ((repeat' first | exact all_nil | apply all_cons | exact retOf_s rfl); done)); exact rfl; (focus ((repeat' first | exact outs_nil | apply outs_d); done))) | (intro hb; try (exfalso; omega)) | ((with_reducible apply WR.lss); exact rfl; exact rfl; exact rfl)
    exact rb_t hall
end Go.DM
