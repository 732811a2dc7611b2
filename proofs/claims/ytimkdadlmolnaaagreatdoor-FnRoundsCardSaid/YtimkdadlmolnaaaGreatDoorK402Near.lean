/- Lawns: what the small functions of both sides give. -/
import Derived.Test.YtimkdadlmolnaaaGreatDoorK402Code
import Derived.Test.YtimkdadlmolnaaaGreatDoorK402Y
set_option linter.unusedSectionVars false
set_option linter.unusedSimpArgs false
set_option linter.unusedVariables false
namespace Go.DM
variable [Tok]
open Go.IntWalk
theorem within_gives (a b c : Int) : Gives G 56 [ai .i64 a, ai .i64 b, ai .i64 c] (rb (decide (b ≤ a ∧ a ≤ c))) := by
  refine Gives.by rfl rfl (W.seq ?_)
  repeat' first | ((with_reducible apply WR.mv); exact rfl; exact rfl) | ((with_reducible apply WR.nil)) | (with_reducible refine andThen_n ?_) | (with_reducible refine W.seq ?_) | (with_reducible refine W.region ?_) | (with_reducible refine W.ret ?_) | ((with_reducible apply Done.r); exact rfl) | (intro hb; try (exfalso; omega)) | ((with_reducible apply WR.leq); exact rfl; exact rfl; exact rfl) | ((with_reducible apply WR.off); exact rfl) | ((with_reducible apply WR.pk); exact rfl; exact rfl)
  all_goals first | rfl | exact rb_t (by first | assumption | omega | (simp only [Is] at *; omega)) | exact rb_f (by first | assumption | omega | (simp only [Is] at *; omega))
theorem l00In_gives (a b c : Int) : Gives G 92 [ai .i64 a, ai .i64 b, ai .i64 c] (rb (decide (b ≤ a ∧ a ≤ c))) := by
  refine Gives.by rfl rfl (W.seq ?_)
  repeat' first | ((with_reducible apply WR.mv); exact rfl; exact rfl) | ((with_reducible apply WR.nil)) | (with_reducible refine andThen_n ?_) | (with_reducible refine W.seq ?_) | (with_reducible refine W.region ?_) | (with_reducible refine W.ret ?_) | ((with_reducible apply Done.r); exact rfl) | (intro hb; try (exfalso; omega)) | ((with_reducible apply WR.off); exact rfl) | ((with_reducible apply WR.leq); exact rfl; exact rfl; exact rfl) | ((with_reducible apply WR.geq); exact rfl; exact rfl; exact rfl) | ((with_reducible apply WR.pk); exact rfl; exact rfl)
  all_goals first | rfl | exact rb_t (by first | assumption | omega | (simp only [Is] at *; omega)) | exact rb_f (by first | assumption | omega | (simp only [Is] at *; omega))
variable {w h : Int} {g : Nat → Int} {cs : List S}
theorem has_gives (l : IsLawn w h g cs) (x y : Int) : Gives G 62 [aa cs, ac x y] (rb (decide (0 ≤ x ∧ x < w ∧ 0 ≤ y ∧ y < h))) := by
  refine Gives.by rfl rfl (W.seq ?_)
  repeat' first | ((with_reducible apply WR.off); exact rfl) | ((with_reducible apply WR.ld); exact rfl; exact rfl; exact rfl; (first | exact lawn_w (by assumption) | exact lawn_h (by assumption))) | ((with_reducible apply WR.lx); exact rfl; exact rfl) | ((with_reducible apply WR.fa); exact rfl; exact rfl) | ((with_reducible apply WR.mv); exact rfl; exact rfl) | ((with_reducible apply WR.pk); exact rfl; exact rfl) | ((with_reducible apply WR.nil)) | (with_reducible refine andThen_n ?_) | (with_reducible refine W.seq ?_) | (with_reducible refine W.region ?_) | (with_reducible refine W.ret ?_) | ((with_reducible apply Done.r); exact rfl) | (intro hb; try (exfalso; omega)) | ((with_reducible apply WR.lss); exact rfl; exact rfl; exact rfl) | ((with_reducible apply WR.geq); exact rfl; exact rfl; exact rfl) | ((with_reducible apply WR.bx); exact rfl; exact rfl; exact IsLawn.len (by assumption); (exact rfl)) | ((with_reducible apply WR.bo); exact rfl; exact rfl; (exact rfl))
  all_goals first | rfl | exact rb_t (by first | assumption | omega | (simp only [Is] at *; omega)) | exact rb_f (by first | assumption | omega | (simp only [Is] at *; omega))
theorem kind_gives (l : IsLawn w h g cs) (x y : Int) (hb : 0 ≤ x ∧ x < 10 ∧ 0 ≤ y ∧ y < 10) : Gives G 100 [aa cs, ac x y] (ri .i64 (g (10 * y.toNat + x.toNat))) := by
  refine Gives.by rfl rfl (W.seq ?_)
  repeat' first | ((with_reducible apply WR.nil)) | (with_reducible refine andThen_n ?_) | (with_reducible refine W.seq ?_) | (with_reducible refine W.region ?_) | (with_reducible refine W.ret ?_) | ((with_reducible apply Done.r); exact rfl) | ((with_reducible apply WH.ld); exact rfl; exact rfl; exact rfl; (first | exact lawn_c (by assumption) (by omega)); exact rfl) | ((with_reducible apply WH.lx); exact rfl; exact rfl; exact rfl) | ((with_reducible apply WH.fa); exact rfl; exact rfl; exact rfl) | ((with_reducible apply WH.nil)) | (with_reducible refine W.draw ?_) | ((with_reducible apply WR.bx); exact rfl; exact rfl; exact IsLawn.len (by assumption); (exact rfl)) | ((with_reducible apply WR.bo); exact rfl; exact rfl; (exact rfl)) | ((with_reducible apply WH.ia); exact rfl; exact rfl; exact rfl; omega; exact rfl) | ((with_reducible apply WR.mv); exact rfl; exact rfl) | ((with_reducible apply WH.mv); exact rfl; exact rfl; exact rfl) | ((with_reducible apply WH.cv); exact rfl; exact rfl; (first | exact lawn_wrap (by assumption) (by omega)))
  all_goals first | rfl | exact rb_t (by first | assumption | omega | (simp only [Is] at *; omega)) | exact rb_f (by first | assumption | omega | (simp only [Is] at *; omega))
theorem is_gives (l : IsLawn w h g cs) (k x y : Int) (hs : (w ≤ 10 ∧ h ≤ 10) ∨ (x < 10 ∧ y < 10)) : Gives G 65 [aa cs, ac x y, ai .i64 k] (rb (decide (Is w h g k x y))) := by
  refine Gives.by rfl rfl (W.seq ?_)
  repeat' first | ((with_reducible apply WR.cp); exact rfl; exact rfl; exact rfl; exact rfl; exact has_gives (by assumption) _ _; exact rfl) | ((with_reducible apply WR.cs); exact rfl; exact rfl; exact rfl; exact rfl; exact kind_gives (by assumption) _ _ (by omega); exact rfl) | ((with_reducible apply WR.mv); exact rfl; exact rfl) | ((with_reducible apply WR.ld); exact rfl; exact rfl; exact rfl; (first | exact loadC_all (IsLawn.len (by assumption)))) | ((with_reducible apply WR.lx); exact rfl; exact rfl) | ((with_reducible apply WR.nil)) | (with_reducible refine andThen_n ?_) | (with_reducible refine W.seq ?_) | (with_reducible refine W.region ?_) | (with_reducible refine W.ret ?_) | ((with_reducible apply Done.r); exact rfl) | (intro hb; try (exfalso; omega)) | ((with_reducible apply WR.off); exact rfl) | ((with_reducible apply WR.bx); exact rfl; exact rfl; exact IsLawn.len (by assumption); (exact rfl)) | ((with_reducible apply WR.bo); exact rfl; exact rfl; (exact rfl)) | ((with_reducible apply WR.eql); exact rfl; exact rfl; exact rfl) | ((with_reducible apply WR.pk); exact rfl; exact rfl)
  all_goals first | rfl | exact rb_t (by first | assumption | omega | (simp only [Is] at *; omega)) | exact rb_f (by first | assumption | omega | (simp only [Is] at *; omega))
theorem grass_gives (l : IsLawn w h g cs) (x y : Int) (hs : (w ≤ 10 ∧ h ≤ 10) ∨ (x < 10 ∧ y < 10)) : Gives G 32 [aa cs, ac x y] (rb (decide (Is w h g 0 x y))) := by
  refine Gives.by rfl rfl (W.seq ?_)
  repeat' first | ((with_reducible apply WR.cp); exact rfl; exact rfl; exact rfl; exact rfl; exact is_gives (by assumption) _ _ _ (by omega); exact rfl) | ((with_reducible apply WR.nil)) | (with_reducible refine andThen_n ?_) | (with_reducible refine W.seq ?_) | (with_reducible refine W.region ?_) | (with_reducible refine W.ret ?_) | ((with_reducible apply Done.r); exact rfl) | (intro hb; try (exfalso; omega)) | ((with_reducible apply WR.mv); exact rfl; exact rfl) | ((with_reducible apply WR.bx); exact rfl; exact rfl; exact IsLawn.len (by assumption); (exact rfl)) | ((with_reducible apply WR.bo); exact rfl; exact rfl; (exact rfl)) | ((with_reducible apply WR.ld); exact rfl; exact rfl; exact rfl; (first | exact loadC_all (IsLawn.len (by assumption)))) | ((with_reducible apply WR.lx); exact rfl; exact rfl)
  all_goals first | rfl | exact rb_t (by first | assumption | omega | (simp only [Is] at *; omega)) | exact rb_f (by first | assumption | omega | (simp only [Is] at *; omega))
theorem l01Is_gives (l : IsLawn w h g cs) (x y : Int) (hx : -128 ≤ x ∧ x ≤ 127 ∧ -128 ≤ y ∧ y ≤ 127) : Gives G 50 [ar cs, ac x y] (rb (decide (0 ≤ x ∧ x < w ∧ 0 ≤ y ∧ y < h))) := by
  have := l.wb
  have := l.hb
  refine Gives.by rfl rfl (W.seq ?_)
  repeat' first | ((with_reducible apply WH.cp); exact rfl; exact rfl; exact rfl; exact rfl; exact l00In_gives _ _ _; exact rfl) | ((with_reducible apply WH.off); exact rfl) | ((with_reducible apply WH.mv); exact rfl; exact rfl; exact rfl) | ((with_reducible apply WH.cv); exact rfl; exact rfl; (first | exact i64_in _ (by omega))) | ((with_reducible apply WH.ldd); exact rfl; exact rfl; (first | exact lawn_w (by assumption) | exact lawn_h (by assumption)); exact rfl) | ((with_reducible apply WH.lx); exact rfl; exact rfl; exact rfl) | ((with_reducible apply WH.fa); exact rfl; exact rfl; exact rfl) | ((with_reducible apply WR.nil)) | (with_reducible refine andThen_n ?_) | (with_reducible refine W.seq ?_) | (with_reducible refine W.region ?_) | (with_reducible refine W.ret ?_) | ((with_reducible apply Done.r); exact rfl) | ((with_reducible apply WH.nil)) | (with_reducible refine W.draw ?_) | (intro hb; try (exfalso; omega)) | ((with_reducible apply WH.sb); exact rfl; exact rfl; exact rfl; (first | exact i64_in _ (by omega))) | ((with_reducible apply WH.nc); exact rfl; exact rfl; exact rfl) | ((with_reducible apply WR.mv); exact rfl; exact rfl) | ((with_reducible apply WR.bo); exact rfl; exact rfl; (exact rfl)) | ((with_reducible apply WH.pk); exact rfl; exact rfl; exact rfl)
  all_goals first | rfl | exact rb_t (by first | assumption | omega | (simp only [Is] at *; omega)) | exact rb_f (by first | assumption | omega | (simp only [Is] at *; omega))
theorem l01At_gives (l : IsLawn w h g cs) (x y : Int) (hb : 0 ≤ x ∧ x < 10 ∧ 0 ≤ y ∧ y < 10) : Gives G 61 [ar cs, ac x y] (ri .i64 (g (10 * y.toNat + x.toNat))) := by
  refine Gives.by rfl rfl (W.seq ?_)
  repeat' first | ((with_reducible apply WR.nil)) | (with_reducible refine andThen_n ?_) | (with_reducible refine W.seq ?_) | (with_reducible refine W.region ?_) | (with_reducible refine W.ret ?_) | ((with_reducible apply Done.r); exact rfl) | ((with_reducible apply WH.ldd); exact rfl; exact rfl; (first | exact lawn_c (by assumption) (by omega)); exact rfl) | ((with_reducible apply WH.lx); exact rfl; exact rfl; exact rfl) | ((with_reducible apply WH.fa); exact rfl; exact rfl; exact rfl) | ((with_reducible apply WH.nil)) | (with_reducible refine W.draw ?_) | ((with_reducible apply WH.mv); exact rfl; exact rfl; exact rfl) | ((with_reducible apply WH.iad); exact rfl; exact rfl; exact rfl; omega; exact rfl) | ((with_reducible apply WR.mv); exact rfl; exact rfl) | ((with_reducible apply WR.bo); exact rfl; exact rfl; (exact rfl)) | ((with_reducible apply WH.cv); exact rfl; exact rfl; (first | exact lawn_wrap (by assumption) (by omega))) | ((with_reducible apply WH.nc); exact rfl; exact rfl; exact rfl)
  all_goals first | rfl | exact rb_t (by first | assumption | omega | (simp only [Is] at *; omega)) | exact rb_f (by first | assumption | omega | (simp only [Is] at *; omega))
theorem l01Side_gives (n : Int) : Gives G 58 [ai .i64 n] (rb (decide (1 ≤ n ∧ n ≤ 10))) := by
  refine Gives.by rfl rfl (W.seq ?_)
  repeat' first | ((with_reducible apply WR.cp); exact rfl; exact rfl; exact rfl; exact rfl; exact l00In_gives _ _ _; exact rfl) | ((with_reducible apply WR.mv); exact rfl; exact rfl) | ((with_reducible apply WR.nil)) | (with_reducible refine andThen_n ?_) | (with_reducible refine W.seq ?_) | (with_reducible refine W.region ?_) | (with_reducible refine W.ret ?_) | ((with_reducible apply Done.r); exact rfl) | (intro hb; try (exfalso; omega))
  all_goals first | rfl | exact rb_t (by first | assumption | omega | (simp only [Is] at *; omega)) | exact rb_f (by first | assumption | omega | (simp only [Is] at *; omega))
theorem l01Kind_gives (n : Int) : Gives G 59 [ai .i64 n] (rb (decide (0 ≤ n ∧ n ≤ 3))) := by
  refine Gives.by rfl rfl (W.seq ?_)
  repeat' first | ((with_reducible apply WR.cp); exact rfl; exact rfl; exact rfl; exact rfl; exact l00In_gives _ _ _; exact rfl) | ((with_reducible apply WR.mv); exact rfl; exact rfl) | ((with_reducible apply WR.nil)) | (with_reducible refine andThen_n ?_) | (with_reducible refine W.seq ?_) | (with_reducible refine W.region ?_) | (with_reducible refine W.ret ?_) | ((with_reducible apply Done.r); exact rfl) | (intro hb; try (exfalso; omega))
  all_goals first | rfl | exact rb_t (by first | assumption | omega | (simp only [Is] at *; omega)) | exact rb_f (by first | assumption | omega | (simp only [Is] at *; omega))
end Go.DM

/- Valid lawns: both sides. -/
namespace Go.DM
variable [Tok]
open Go.IntWalk
variable {w h : Int} {g : Nat → Int} {cs : List S}
theorem validLawn_gives (l : IsLawn w h g cs) : Gives G 30 [aa cs] (rb (decide (LawnOk w h g))) := by
  refine Gives.by rfl rfl (W.seq ?_)
  repeat' first | ((with_reducible apply WR.cp); exact rfl; exact rfl; exact rfl; exact rfl; exact within_gives _ _ _; exact rfl) | ((with_reducible apply WR.mv); exact rfl; exact rfl) | ((with_reducible apply WR.off); exact rfl) | ((with_reducible apply WR.ld); exact rfl; exact rfl; exact rfl; (first | exact lawn_w (by assumption) | exact lawn_h (by assumption))) | ((with_reducible apply WR.un); exact rfl; exact rfl) | ((with_reducible apply WR.pk); exact rfl; exact rfl) | ((with_reducible apply WR.fa); exact rfl; exact rfl) | ((with_reducible apply WR.nil)) | (with_reducible refine andThen_n ?_) | (with_reducible refine andThen_r ?_) | (with_reducible refine W.seq ?_) | (with_reducible refine W.region ?_) | (with_reducible refine W.skip ?_) | (with_reducible refine W.ret ?_) | (with_reducible refine W.block ?_) | ((with_reducible apply W.condT); exact rfl) | ((with_reducible apply W.condF); exact rfl) | ((with_reducible apply Done.r); exact rfl) | (intro hb; try (exfalso; omega)) | ((with_reducible apply WR.cv); exact rfl; exact rfl; (first | exact lawn_ww (by assumption) | exact lawn_hw (by assumption))) | ((with_reducible apply WR.bx); exact rfl; exact rfl; exact IsLawn.len (by assumption); (exact rfl))
  all_goals first | exact rb_f (by simp only [LawnOk]; omega) | skip
  refine W.loopI (fun n σ => ∃ y : Int, n = (10 - y).toNat ∧ 0 ≤ y ∧ y ≤ 10 ∧ (∀ k, k < 10 * y.toNat → cellOk w h g k) ∧ σ.env 18 = .a (.d (.s (.int .i8 y))) ∧ σ.env 1 = .a (.ptr 1 0) ∧ σ.objs 1 = some (.flat false cs)) ?_ 10 _ ⟨0, rfl, by omega, by omega, fun k hk => by omega, rfl, rfl, rfl⟩
  rintro n σ ⟨y, rfl, y0, y1, hok, e18, e1, o1⟩
  rw [← set_self e18, ← set_self e1, ← put_self o1]
  repeat' first | ((with_reducible apply WR.mv); exact rfl; exact rfl) | ((with_reducible apply WR.nil)) | (with_reducible refine andThen_n ?_) | (with_reducible refine andThen_x ?_) | (with_reducible refine inB_x ?_) | (with_reducible refine W.seq ?_) | (with_reducible refine W.region ?_) | (with_reducible refine W.skip ?_) | (with_reducible refine W.ret ?_) | (with_reducible refine W.exit ?_) | (with_reducible refine W.block ?_) | ((with_reducible apply W.condT); exact rfl) | ((with_reducible apply W.condF); exact rfl) | ((with_reducible apply Done.r); exact rfl) | (intro hb; try (exfalso; omega)) | ((with_reducible apply WR.lss); exact rfl; exact rfl; exact rfl)
  · refine W.loopI (fun n σ => ∃ x : Int, n = (10 - x).toNat ∧ 0 ≤ x ∧ x ≤ 10 ∧ (∀ k, k < 10 * y.toNat + x.toNat → cellOk w h g k) ∧ σ.env 21 = .a (.d (.s (.int .i8 x))) ∧ σ.env 18 = .a (.d (.s (.int .i8 y))) ∧ σ.env 3 = .a (.d (.s (.int .i8 y))) ∧ σ.env 1 = .a (.ptr 1 0) ∧ σ.objs 1 = some (.flat false cs))
      ?_ 10 _ ⟨0, rfl, by omega, by omega, by simpa using hok, rfl, rfl, rfl, rfl, rfl⟩
    clear hok e18 e1 o1
    rintro n σ ⟨x, rfl, x0, x1, hok, e21, e18, e3, e1, o1⟩
    rw [← set_self e21, ← set_self e18, ← set_self e3, ← set_self e1, ← put_self o1]
    repeat' first | ((with_reducible apply WR.cp); exact rfl; exact rfl; exact rfl; exact rfl; exact has_gives (by assumption) _ _; exact rfl) | ((with_reducible apply WR.mv); exact rfl; exact rfl) | ((with_reducible apply WR.off); exact rfl) | ((with_reducible apply WR.ld); exact rfl; exact rfl; exact rfl; (first | exact lawn_c (by assumption) (by omega) | exact loadC_all (IsLawn.len (by assumption)))) | ((with_reducible apply WR.un); exact rfl; exact rfl) | ((with_reducible apply WR.pk); exact rfl; exact rfl) | ((with_reducible apply WR.fa); exact rfl; exact rfl) | ((with_reducible apply WR.nil)) | (with_reducible refine andThen_n ?_) | (with_reducible refine andThen_x ?_) | (with_reducible refine andThen_r ?_) | (with_reducible refine inB_n ?_) | (with_reducible refine inB_r ?_) | (with_reducible refine inB_x ?_) | (with_reducible refine W.seq ?_) | (with_reducible refine W.region ?_) | (with_reducible refine W.skip ?_) | (with_reducible refine W.ret ?_) | (with_reducible refine W.exit ?_) | (with_reducible refine W.block ?_) | ((with_reducible apply W.condT); exact rfl) | ((with_reducible apply W.condF); exact rfl) | ((with_reducible apply Done.r); exact rfl) | (intro hb; try (exfalso; omega)) | ((with_reducible apply WR.lss); exact rfl; exact rfl; exact rfl) | ((with_reducible apply WR.ad); exact rfl; exact rfl; exact rfl; (first | exact i8_in _ (by omega))) | ((with_reducible apply WR.ia); exact rfl; exact rfl; exact rfl; omega) | ((with_reducible apply WR.gtr); exact rfl; exact rfl; exact rfl) | ((with_reducible apply WR.neq); exact rfl; exact rfl; exact rfl) | ((with_reducible apply WR.bu); exact rfl; exact rfl)
    all_goals first
      | exact rb_f (fun hl => by have := hl.2.2 (10 * y.toNat + x.toNat) (by omega); simp only [cellOk] at this; omega)
      | exact ⟨_, by omega, x + 1, rfl, by omega, by omega, upTo1 x0 hok (by simp only [cellOk]; omega), rfl, rfl, rfl, rfl, rfl⟩
      | exact ⟨_, by omega, y + 1, rfl, by omega, by omega, upTo2 y0 (by omega) hok, rfl, rfl, rfl⟩
      | skip
  · exact rb_t ⟨by omega, by omega, fun k hk => hok k (by omega)⟩
theorem l01Ok_gives (l : IsLawn w h g cs) : Gives G 28 [ar cs] (rb (decide (LawnOk w h g))) := by
  refine Gives.by rfl rfl (W.seq ?_)
  repeat' first | ((with_reducible apply WR.cp); exact rfl; exact rfl; exact rfl; exact rfl; exact l01Side_gives _; exact rfl) | ((with_reducible apply WR.mv); exact rfl; exact rfl) | ((with_reducible apply WR.off); exact rfl) | ((with_reducible apply WR.un); exact rfl; exact rfl) | ((with_reducible apply WR.cv); exact rfl; exact rfl; (first | exact lawn_ww (by assumption) | exact lawn_hw (by assumption))) | ((with_reducible apply WR.ldd); exact rfl; exact rfl; (first | exact lawn_w (by assumption) | exact lawn_h (by assumption))) | ((with_reducible apply WR.pk); exact rfl; exact rfl) | ((with_reducible apply WR.fa); exact rfl; exact rfl) | ((with_reducible apply WR.nc); exact rfl; exact rfl) | ((with_reducible apply WR.nil)) | (with_reducible refine andThen_n ?_) | (with_reducible refine andThen_r ?_) | (with_reducible refine W.seq ?_) | (with_reducible refine W.region ?_) | (with_reducible refine W.skip ?_) | (with_reducible refine W.ret ?_) | (with_reducible refine W.block ?_) | ((with_reducible apply W.condT); exact rfl) | ((with_reducible apply W.condF); exact rfl) | ((with_reducible apply Done.r); exact rfl) | (intro hb; try (exfalso; omega))
  all_goals first | exact rb_f (by simp only [LawnOk]; omega) | skip
  refine W.loopI (fun n σ => ∃ y : Int, n = (10 - y).toNat ∧ 0 ≤ y ∧ y ≤ 10 ∧ (∀ k, k < 10 * y.toNat → cellOk w h g k) ∧ σ.env 3 = .a (.d (.s (.int .i8 y))) ∧ σ.env 0 = .a (.d (.ref cs))) ?_ 10 _ ⟨0, rfl, by omega, by omega, fun k hk => by omega, rfl, rfl⟩
  rintro n σ ⟨y, rfl, y0, y1, hok, e3, e0⟩
  rw [← set_self e3, ← set_self e0]
  repeat' first | ((with_reducible apply WR.mv); exact rfl; exact rfl) | ((with_reducible apply WR.nil)) | (with_reducible refine andThen_n ?_) | (with_reducible refine andThen_x ?_) | (with_reducible refine inB_x ?_) | (with_reducible refine W.seq ?_) | (with_reducible refine W.region ?_) | (with_reducible refine W.skip ?_) | (with_reducible refine W.ret ?_) | (with_reducible refine W.exit ?_) | (with_reducible refine W.block ?_) | ((with_reducible apply W.condT); exact rfl) | ((with_reducible apply W.condF); exact rfl) | ((with_reducible apply Done.r); exact rfl) | (intro hb; try (exfalso; omega)) | ((with_reducible apply WR.lss); exact rfl; exact rfl; exact rfl)
  · refine W.loopI (fun n σ => ∃ x : Int, n = (10 - x).toNat ∧ 0 ≤ x ∧ x ≤ 10 ∧ (∀ k, k < 10 * y.toNat + x.toNat → cellOk w h g k) ∧ σ.env 4 = .a (.d (.s (.int .i8 x))) ∧ σ.env 3 = .a (.d (.s (.int .i8 y))) ∧ σ.env 0 = .a (.d (.ref cs)))
      ?_ 10 _ ⟨0, rfl, by omega, by omega, by simpa using hok, rfl, rfl, rfl⟩
    clear hok e3 e0
    rintro n σ ⟨x, rfl, x0, x1, hok, e4, e3, e0⟩
    rw [← set_self e4, ← set_self e3, ← set_self e0]
    repeat' first | ((with_reducible apply WR.cp); exact rfl; exact rfl; exact rfl; exact rfl; exact l01Kind_gives _; exact rfl) | ((with_reducible apply WR.cp); exact rfl; exact rfl; exact rfl; exact rfl; exact l01Is_gives (by assumption) _ _ (by omega); exact rfl) | ((with_reducible apply WR.mv); exact rfl; exact rfl) | ((with_reducible apply WR.off); exact rfl) | ((with_reducible apply WR.un); exact rfl; exact rfl) | ((with_reducible apply WR.cv); exact rfl; exact rfl; (first | exact i8_in _ (by omega) | exact lawn_wrap (by assumption) (by omega))) | ((with_reducible apply WR.ldd); exact rfl; exact rfl; (first | exact lawn_c (by assumption) (by omega))) | ((with_reducible apply WR.pk); exact rfl; exact rfl) | ((with_reducible apply WR.fa); exact rfl; exact rfl) | ((with_reducible apply WR.nc); exact rfl; exact rfl) | ((with_reducible apply WR.nil)) | (with_reducible refine andThen_n ?_) | (with_reducible refine andThen_x ?_) | (with_reducible refine andThen_r ?_) | (with_reducible refine inB_n ?_) | (with_reducible refine inB_r ?_) | (with_reducible refine inB_x ?_) | (with_reducible refine W.seq ?_) | (with_reducible refine W.region ?_) | (with_reducible refine W.skip ?_) | (with_reducible refine W.ret ?_) | (with_reducible refine W.exit ?_) | (with_reducible refine W.block ?_) | ((with_reducible apply W.condT); exact rfl) | ((with_reducible apply W.condF); exact rfl) | ((with_reducible apply Done.r); exact rfl) | (intro hb; try (exfalso; omega)) | ((with_reducible apply WR.lss); exact rfl; exact rfl; exact rfl) | ((with_reducible apply WR.ad); exact rfl; exact rfl; exact rfl; (first | exact i8_in _ (by omega) | exact lawn_wrap (by assumption) (by omega))) | ((with_reducible apply WR.iad); exact rfl; exact rfl; exact rfl; omega) | ((with_reducible apply WR.neq); exact rfl; exact rfl; exact rfl) | ((with_reducible apply WR.bu); exact rfl; exact rfl)
    all_goals have hcb := fun (h : 10 * y.toNat + x.toNat < 100) => l.cb _ h
    all_goals first
      | exact rb_f (fun hl => by have := hl.2.2 (10 * y.toNat + x.toNat) (by omega); simp only [cellOk] at this; have := hcb (by omega); omega)
      | exact ⟨_, by omega, x + 1, rfl, by omega, by omega, upTo1 x0 hok (by simp only [cellOk]; omega), rfl, rfl, rfl⟩
      | exact ⟨_, by omega, y + 1, rfl, by omega, by omega, upTo2 y0 (by omega) hok, rfl, rfl⟩
  · exact rb_t ⟨by omega, by omega, fun k hk => hok k (by omega)⟩
variable {q : Nat → Int} {qs : List S}
end Go.DM

/- Moles: what the functions of both sides give. -/
namespace Go.DM
variable [Tok]
open Go.IntWalk
variable {w h : Int} {g : Nat → Int} {cs : List S} {q : Nat → Int} {qs : List S}
theorem indexFunc_gives {f : Nat} {fn : Fn} {z : D} (P : Cel → Prop) [DecidablePred P] (l : List Cel) (hl : l.length ≤ 1000) (hf : G f = some fn) (hm : fn.muts = []) (hP : ∀ c ∈ l, Gives G f [ac c.1 c.2, .d z] (rb (decide (P c)))) :
    Gives G 99 [asl l, .d (.clo f [] [z])] (ri .i64 (idxOf P l 0)) := by
  refine Gives.by rfl rfl (W.seq ?_)
  repeat' first | ((with_reducible apply WR.mv); exact rfl; exact rfl) | ((with_reducible apply WR.nil)) | (with_reducible refine andThen_n ?_) | (with_reducible refine W.seq ?_) | (with_reducible refine W.region ?_) | (with_reducible refine W.block ?_) | ((with_reducible apply WR.le); exact rfl; exact rfl)
  refine W.loopI (fun n σ => ∃ i : Int, n = (l.length - i).toNat ∧ 0 ≤ i ∧ i ≤ l.length ∧ idxOf P l 0 = idxOf P (l.drop i.toNat) i ∧ σ.env 8 = .a (.d (.s (.int .i64 i))) ∧ σ.env 7 = .a (.d (.s (.int .i64 (l.length : Nat)))) ∧ σ.env 0 = .a (.d (.sl l.length 2 (encC l))) ∧ σ.env 1 = .a (.d (.clo f [] [z])))
    ?_ _ _ ⟨0, rfl, by omega, by omega, rfl, rfl, rfl, rfl, rfl⟩
  rintro n σ ⟨i, rfl, i0, i1, hi, e8, e7, e0, e1⟩
  rw [← set_self e8, ← set_self e7, ← set_self e0, ← set_self e1]
  repeat' first | ((with_reducible apply WR.mv); exact rfl; exact rfl) | ((with_reducible apply WR.nil)) | (with_reducible refine andThen_n ?_) | (with_reducible refine andThen_x ?_) | (with_reducible refine inB_x ?_) | (with_reducible refine W.seq ?_) | (with_reducible refine W.region ?_) | (with_reducible refine W.skip ?_) | (with_reducible refine W.ret ?_) | (with_reducible refine W.exit ?_) | (with_reducible refine W.block ?_) | ((with_reducible apply W.condT); exact rfl) | ((with_reducible apply W.condF); exact rfl) | ((with_reducible apply Done.r); exact rfl) | (intro hb; try (exfalso; omega)) | ((with_reducible apply WR.lss); exact rfl; exact rfl; exact rfl)
  · obtain ⟨c, hc⟩ := get_of_lt i0 (by assumption)
    have hmem : c ∈ l := List.mem_of_getElem? hc
    (with_reducible apply WR.id); exact rfl; exact rfl; exact rfl; exact ⟨i0, by assumption⟩; exact Nat.le_of_eq (encC_length l).symm
    (with_reducible apply WR.ldd); exact rfl; exact rfl; exact encC_load l _ c hc
    (with_reducible apply WR.vp); exact rfl; exact rfl; exact hf; exact hm; exact rfl; exact hP c hmem
    all_goals repeat' first | ((with_reducible apply WR.mv); exact rfl; exact rfl) | ((with_reducible apply WR.nil)) | (with_reducible refine andThen_n ?_) | (with_reducible refine andThen_r ?_) | (with_reducible refine inB_n ?_) | (with_reducible refine inB_r ?_) | (with_reducible refine W.seq ?_) | (with_reducible refine W.region ?_) | (with_reducible refine W.skip ?_) | (with_reducible refine W.ret ?_) | ((with_reducible apply W.condT); exact rfl) | ((with_reducible apply W.condF); exact rfl) | ((with_reducible apply Done.r); exact rfl) | (intro hb; try (exfalso; omega)) | ((with_reducible apply WR.ad); exact rfl; exact rfl; exact rfl; (first | exact i64_in _ (by omega)))
    all_goals first
      | (rw [hi, idxOf_step P i0 hc, if_pos (by assumption)]; rfl)
      | exact ⟨_, by omega, i + 1, rfl, by omega, by omega, by rw [hi, idxOf_step P i0 hc, if_neg (by assumption)], rfl, rfl, rfl, rfl⟩
  · have : l.drop i.toNat = [] := List.drop_eq_nil_of_le (by omega)
    rw [hi, this]; rfl
end Go.DM

/- Moles: codes, cells beside. -/
namespace Go.DM
variable [Tok]
open Go.IntWalk
variable {w h : Int} {g : Nat → Int} {cs : List S} {q : Nat → Int} {qs : List S}
theorem beside_gives (x y : Int) (hx : -127 ≤ x ∧ x ≤ 126 ∧ -127 ≤ y ∧ y ≤ 126) : Gives G 89 [ac x y] ⟨[.own 4 2 (encC (Near x y))], []⟩ := by
  refine Gives.by rfl rfl (W.seq ?_)
  repeat' first | ((with_reducible apply WR.lx); exact rfl; exact rfl) | ((with_reducible apply WR.fa); exact rfl; exact rfl) | ((with_reducible apply WR.bu); exact rfl; exact rfl) | ((with_reducible apply WR.nil)) | (with_reducible refine andThen_n ?_) | (with_reducible refine W.seq ?_) | (with_reducible refine W.region ?_) | (with_reducible refine W.ret ?_) | ((with_reducible apply Done.r); exact rfl) | ((with_reducible apply WR.mv); exact rfl; exact rfl) | ((with_reducible apply WR.ad); exact rfl; exact rfl; exact rfl; (first | exact i8_in _ (by omega))) | ((with_reducible apply WR.sb); exact rfl; exact rfl; exact rfl; (first | exact i8_in _ (by omega))) | ((with_reducible apply WR.bo); exact rfl; exact rfl; (exact rfl)) | ((with_reducible apply WR.bs); exact rfl; exact rfl; (exact rfl))
  all_goals rfl
end Go.DM
