/- Lawns: what the small functions of both sides give. -/
import Derived.Test.YtaocbbdkiemhaaaK139Code
import Derived.Test.YtaocbbdkiemhaaaK139Y
set_option linter.unusedSimpArgs false
set_option linter.unusedVariables false
namespace Go.DM
set_option linter.unusedSectionVars false
variable [Tok]
open Go.IntWalk

theorem within_gives (a b c : Int) : Gives G 56 [ai .i64 a, ai .i64 b, ai .i64 c] (rb (decide (b ≤ a ∧ a ≤ c))) := by
  refine Gives.by rfl rfl (W.seq ?_)
  repeat' first | ((with_reducible apply WR.mv); exact rfl; exact rfl) | ((with_reducible apply WR.nil)) | (with_reducible refine andThen_n ?_) | (with_reducible refine W.seq ?_) | (with_reducible refine W.region ?_) | (with_reducible refine W.ret ?_) | ((with_reducible apply Done.r); exact rfl) | (intro hb; try (exfalso; omega)) | ((with_reducible apply WR.leq); exact rfl; exact rfl; exact rfl) | ((with_reducible apply WR.off); exact rfl) | ((with_reducible apply WR.pk); exact rfl; exact rfl)
  all_goals first | rfl | exact rb_t (by first | assumption | omega | (simp only [Is] at *; omega)) | exact rb_f (by first | assumption | omega | (simp only [Is] at *; omega))

theorem l00In_gives (a b c : Int) : Gives G 92 [ai .i64 a, ai .i64 b, ai .i64 c] (rb (decide (b ≤ a ∧ a ≤ c))) := by
  refine Gives.by rfl rfl (W.seq ?_)
  repeat' first | ((with_reducible apply WR.mv); exact rfl; exact rfl) | ((with_reducible apply WR.nil)) | (with_reducible refine andThen_n ?_) | (with_reducible refine W.seq ?_) | (with_reducible refine W.region ?_) | (with_reducible refine W.ret ?_) | ((with_reducible apply Done.r); exact rfl) | (intro hb; try (exfalso; omega)) | ((with_reducible apply WR.off); exact rfl) | ((with_reducible apply WR.leq); exact rfl; exact rfl; exact rfl) | ((with_reducible apply WR.geq); exact rfl; exact rfl; exact rfl) | ((with_reducible apply WR.pk); exact rfl; exact rfl)
  all_goals first | rfl | exact rb_t (by first | assumption | omega | (simp only [Is] at *; omega)) | exact rb_f (by first | assumption | omega | (simp only [Is] at *; omega))

variable {w h : Int} {g : Nat → Int} {cs : List S}
theorem has_gives (l : IsLawn w h g cs) (x y : Int) : Gives G 62 [aa cs, ac x y] (rb (decide (0 ≤ x ∧ x < w ∧ 0 ≤ y ∧ y < h))) := by
  refine Gives.by rfl rfl (W.seq ?_)
  repeat' first | ((with_reducible apply WR.off); exact rfl) | ((with_reducible apply WR.ld); exact rfl; exact rfl; exact rfl; (first | exact lawn_w (by assumption) | exact lawn_h (by assumption))) | ((with_reducible apply WR.lx); exact rfl; exact rfl) | ((with_reducible apply WR.fa); exact rfl; exact rfl) | ((with_reducible apply WR.mv); exact rfl; exact rfl) | ((with_reducible apply WR.pk); exact rfl; exact rfl) | ((with_reducible apply WR.nil)) | (with_reducible refine andThen_n ?_) | (with_reducible refine W.seq ?_) | (with_reducible refine W.region ?_) | (with_reducible refine W.ret ?_) | ((with_reducible apply Done.r); exact rfl) | (intro hb; try (exfalso; omega)) | ((with_reducible apply WR.lss); exact rfl; exact rfl; exact rfl) | ((with_reducible apply WR.geq); exact rfl; exact rfl; exact rfl) | ((with_reducible apply WR.bx); exact rfl; exact rfl; exact IsLawn.len (by assumption); (first | exact rfl)) | ((with_reducible apply WR.bo); exact rfl; exact rfl; (first | exact rfl))
  all_goals first | rfl | exact rb_t (by first | assumption | omega | (simp only [Is] at *; omega)) | exact rb_f (by first | assumption | omega | (simp only [Is] at *; omega))

theorem kind_gives (l : IsLawn w h g cs) (x y : Int) (hb : 0 ≤ x ∧ x < 10 ∧ 0 ≤ y ∧ y < 10) : Gives G 100 [aa cs, ac x y] (ri .i64 (g (10 * y.toNat + x.toNat))) := by
  refine Gives.by rfl rfl (W.seq ?_)
  repeat' first | ((with_reducible apply WR.nil)) | (with_reducible refine andThen_n ?_) | (with_reducible refine W.seq ?_) | (with_reducible refine W.region ?_) | (with_reducible refine W.ret ?_) | ((with_reducible apply Done.r); exact rfl) | ((with_reducible apply WH.ld); exact rfl; exact rfl; exact rfl; (first | exact lawn_c (by assumption) (by omega)); exact rfl) | ((with_reducible apply WH.lx); exact rfl; exact rfl; exact rfl) | ((with_reducible apply WH.fa); exact rfl; exact rfl; exact rfl) | ((with_reducible apply WH.nil)) | (with_reducible refine W.draw ?_) | ((with_reducible apply WR.bx); exact rfl; exact rfl; exact IsLawn.len (by assumption); (first | exact rfl)) | ((with_reducible apply WR.bo); exact rfl; exact rfl; (first | exact rfl)) | ((with_reducible apply WH.ia); exact rfl; exact rfl; exact rfl; omega; exact rfl) | ((with_reducible apply WR.mv); exact rfl; exact rfl) | ((with_reducible apply WH.mv); exact rfl; exact rfl; exact rfl) | ((with_reducible apply WH.cv); exact rfl; exact rfl; (first | exact lawn_wrap (by assumption) (by omega)))
  all_goals first | rfl | exact rb_t (by first | assumption | omega | (simp only [Is] at *; omega)) | exact rb_f (by first | assumption | omega | (simp only [Is] at *; omega))

theorem is_gives (l : IsLawn w h g cs) (k x y : Int) (hs : (w ≤ 10 ∧ h ≤ 10) ∨ (x < 10 ∧ y < 10)) : Gives G 65 [aa cs, ac x y, ai .i64 k] (rb (decide (Is w h g k x y))) := by
  refine Gives.by rfl rfl (W.seq ?_)
  repeat' first | ((with_reducible apply WR.cp); exact rfl; exact rfl; exact rfl; exact rfl; exact has_gives (by assumption) _ _; exact rfl) | ((with_reducible apply WR.cs); exact rfl; exact rfl; exact rfl; exact rfl; exact kind_gives (by assumption) _ _ (by omega); exact rfl) | ((with_reducible apply WR.mv); exact rfl; exact rfl) | ((with_reducible apply WR.ld); exact rfl; exact rfl; exact rfl; (first | exact loadC_all (IsLawn.len (by assumption)))) | ((with_reducible apply WR.lx); exact rfl; exact rfl) | ((with_reducible apply WR.nil)) | (with_reducible refine andThen_n ?_) | (with_reducible refine W.seq ?_) | (with_reducible refine W.region ?_) | (with_reducible refine W.ret ?_) | ((with_reducible apply Done.r); exact rfl) | (intro hb; try (exfalso; omega)) | ((with_reducible apply WR.off); exact rfl) | ((with_reducible apply WR.bx); exact rfl; exact rfl; exact IsLawn.len (by assumption); (first | exact rfl)) | ((with_reducible apply WR.bo); exact rfl; exact rfl; (first | exact rfl)) | ((with_reducible apply WR.eql); exact rfl; exact rfl; exact rfl) | ((with_reducible apply WR.pk); exact rfl; exact rfl)
  all_goals first | rfl | exact rb_t (by first | assumption | omega | (simp only [Is] at *; omega)) | exact rb_f (by first | assumption | omega | (simp only [Is] at *; omega))

/-- The lawn behind a pointer. -/
theorem l01Is_gives (l : IsLawn w h g cs) (x y : Int) (hx : -128 ≤ x ∧ x ≤ 127 ∧ -128 ≤ y ∧ y ≤ 127) : Gives G 50 [ar cs, ac x y] (rb (decide (0 ≤ x ∧ x < w ∧ 0 ≤ y ∧ y < h))) := by
  have := l.wb
  have := l.hb
  refine Gives.by rfl rfl (W.seq ?_)
  repeat' first | ((with_reducible apply WH.cp); exact rfl; exact rfl; exact rfl; exact rfl; exact l00In_gives _ _ _; exact rfl) | ((with_reducible apply WH.off); exact rfl) | ((with_reducible apply WH.mv); exact rfl; exact rfl; exact rfl) | ((with_reducible apply WH.cv); exact rfl; exact rfl; (first | exact i64_in _ (by omega))) | ((with_reducible apply WH.ldd); exact rfl; exact rfl; (first | exact lawn_w (by assumption) | exact lawn_h (by assumption)); exact rfl) | ((with_reducible apply WH.lx); exact rfl; exact rfl; exact rfl) | ((with_reducible apply WH.fa); exact rfl; exact rfl; exact rfl) | ((with_reducible apply WR.nil)) | (with_reducible refine andThen_n ?_) | (with_reducible refine W.seq ?_) | (with_reducible refine W.region ?_) | (with_reducible refine W.ret ?_) | ((with_reducible apply Done.r); exact rfl) | ((with_reducible apply WH.nil)) | (with_reducible refine W.draw ?_) | (intro hb; try (exfalso; omega)) | ((with_reducible apply WH.sb); exact rfl; exact rfl; exact rfl; (first | exact i64_in _ (by omega))) | ((with_reducible apply WH.nc); exact rfl; exact rfl; exact rfl) | ((with_reducible apply WR.mv); exact rfl; exact rfl) | ((with_reducible apply WR.bo); exact rfl; exact rfl; (first | exact rfl)) | ((with_reducible apply WH.pk); exact rfl; exact rfl; exact rfl)
  all_goals first | rfl | exact rb_t (by first | assumption | omega | (simp only [Is] at *; omega)) | exact rb_f (by first | assumption | omega | (simp only [Is] at *; omega))
theorem l01At_gives (l : IsLawn w h g cs) (x y : Int) (hb : 0 ≤ x ∧ x < 10 ∧ 0 ≤ y ∧ y < 10) : Gives G 61 [ar cs, ac x y] (ri .i64 (g (10 * y.toNat + x.toNat))) := by
  refine Gives.by rfl rfl (W.seq ?_)
  repeat' first | ((with_reducible apply WR.nil)) | (with_reducible refine andThen_n ?_) | (with_reducible refine W.seq ?_) | (with_reducible refine W.region ?_) | (with_reducible refine W.ret ?_) | ((with_reducible apply Done.r); exact rfl) | ((with_reducible apply WH.ldd); exact rfl; exact rfl; (first | exact lawn_c (by assumption) (by omega)); exact rfl) | ((with_reducible apply WH.lx); exact rfl; exact rfl; exact rfl) | ((with_reducible apply WH.fa); exact rfl; exact rfl; exact rfl) | ((with_reducible apply WH.nil)) | (with_reducible refine W.draw ?_) | ((with_reducible apply WH.mv); exact rfl; exact rfl; exact rfl) | ((with_reducible apply WH.iad); exact rfl; exact rfl; exact rfl; omega; exact rfl) | ((with_reducible apply WR.mv); exact rfl; exact rfl) | ((with_reducible apply WR.bo); exact rfl; exact rfl; (first | exact rfl)) | ((with_reducible apply WH.cv); exact rfl; exact rfl; (first | exact lawn_wrap (by assumption) (by omega))) | ((with_reducible apply WH.nc); exact rfl; exact rfl; exact rfl)
  all_goals first | rfl | exact rb_t (by first | assumption | omega | (simp only [Is] at *; omega)) | exact rb_f (by first | assumption | omega | (simp only [Is] at *; omega))
theorem l01Side_gives (n : Int) : Gives G 58 [ai .i64 n] (rb (decide (1 ≤ n ∧ n ≤ 10))) := by
  refine Gives.by rfl rfl (W.seq ?_)
  repeat' first | ((with_reducible apply WR.cp); exact rfl; exact rfl; exact rfl; exact rfl; exact l00In_gives _ _ _; exact rfl) | ((with_reducible apply WR.mv); exact rfl; exact rfl) | ((with_reducible apply WR.nil)) | (with_reducible refine andThen_n ?_) | (with_reducible refine W.seq ?_) | (with_reducible refine W.region ?_) | (with_reducible refine W.ret ?_) | ((with_reducible apply Done.r); exact rfl) | (intro hb; try (exfalso; omega))
  all_goals first | rfl | exact rb_t (by first | assumption | omega | (simp only [Is] at *; omega)) | exact rb_f (by first | assumption | omega | (simp only [Is] at *; omega))
theorem l01Kind_gives (n : Int) : Gives G 59 [ai .i64 n] (rb (decide (0 ≤ n ∧ n ≤ 3))) := by
  refine Gives.by rfl rfl (W.seq ?_)
  repeat' first | ((with_reducible apply WR.cp); exact rfl; exact rfl; exact rfl; exact rfl; exact l00In_gives _ _ _; exact rfl) | ((with_reducible apply WR.mv); exact rfl; exact rfl) | ((with_reducible apply WR.nil)) | (with_reducible refine andThen_n ?_) | (with_reducible refine W.seq ?_) | (with_reducible refine W.region ?_) | (with_reducible refine W.ret ?_) | ((with_reducible apply Done.r); exact rfl) | (intro hb; try (exfalso; omega))
  all_goals first | rfl | exact rb_t (by first | assumption | omega | (simp only [Is] at *; omega)) | exact rb_f (by first | assumption | omega | (simp only [Is] at *; omega))
end Go.DM
