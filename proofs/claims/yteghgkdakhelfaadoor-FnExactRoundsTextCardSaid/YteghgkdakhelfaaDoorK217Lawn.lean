/- Lawns: what the small functions of both sides give. -/
import Derived.Test.YteghgkdakhelfaaDoorK217Code
import Derived.Test.YteghgkdakhelfaaDoorK217Y
set_option linter.unusedSimpArgs false
set_option linter.unusedVariables false
namespace Go.DM
open Go.IntWalk

theorem within_gives (a b c : Int) : Gives G 56 [ai .i64 a, ai .i64 b, ai .i64 c] (rb (decide (b ≤ a ∧ a ≤ c))) := by
  refine Gives.by rfl rfl (W.seq ?_)
  repeat' first | ((with_reducible apply WR.mv); exact rfl; exact rfl) | ((with_reducible apply WR.nil)) | (with_reducible refine andThen_n ?_) | (with_reducible refine W.seq ?_) | (with_reducible refine W.region ?_) | (with_reducible refine W.ret ?_) | ((with_reducible apply Done.r); exact rfl) | (intro hb; try (exfalso; omega)) | ((with_reducible apply WR.leq); exact rfl; exact rfl; exact rfl) | ((with_reducible apply WR.off); exact rfl) | ((with_reducible apply WR.pk); exact rfl; exact rfl)
  all_goals first | rfl | exact rb_t (by first | assumption | omega | (simp only [Is] at *; omega)) | exact rb_f (by first | assumption | omega | (simp only [Is] at *; omega))

theorem l00In_gives (a b c : Int) : Gives G 92 [ai .i64 a, ai .i64 b, ai .i64 c] (rb (decide (b ≤ a ∧ a ≤ c))) := by
  refine Gives.by rfl rfl (W.seq ?_)
  repeat' first | ((with_reducible apply WR.mv); exact rfl; exact rfl) | ((with_reducible apply WR.nil)) | (with_reducible refine andThen_n ?_) | (with_reducible refine W.seq ?_) | (with_reducible refine W.region ?_) | (with_reducible refine W.ret ?_) | ((with_reducible apply Done.r); exact rfl) | (intro hb; try (exfalso; omega)) | ((with_reducible apply WR.off); exact rfl) | ((with_reducible apply WR.leq); exact rfl; exact rfl; exact rfl) | ((with_reducible apply WR.geq); exact rfl; exact rfl; exact rfl) | ((with_reducible apply WR.pk); exact rfl; exact rfl)
  all_goals first | rfl | exact rb_t (by first | assumption | omega | (simp only [Is] at *; omega)) | exact rb_f (by first | assumption | omega | (simp only [Is] at *; omega))

variable {w h : Int} {g : Nat → Int} {cs : List S}
end Go.DM
