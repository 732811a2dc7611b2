/- Moles: what the functions of both sides give. -/
import Derived.Test.YteghgkdakhelfaaDoorK216OkL
set_option linter.unusedSimpArgs false
set_option linter.unusedVariables false
namespace Go.DM
open Go.IntWalk
variable {w h : Int} {g : Nat → Int} {cs : List S} {q : Nat → Int} {qs : List S}

theorem of_gives (v : IsLev q qs) (x y : Int) (hb : 0 ≤ x ∧ x < 10 ∧ 0 ≤ y ∧ y < 10) : Gives G 97 [aa qs, ac x y] (ri .i64 (q (10 * y.toNat + x.toNat))) := by
  refine Gives.by rfl rfl (W.seq ?_)
  repeat' first | ((with_reducible apply WR.nil)) | (with_reducible refine andThen_n ?_) | (with_reducible refine W.seq ?_) | (with_reducible refine W.region ?_) | (with_reducible refine W.ret ?_) | ((with_reducible apply Done.r); exact rfl) | ((with_reducible apply WH.ld); exact rfl; exact rfl; exact rfl; (first | exact lev_c (by assumption) (by omega)); exact rfl) | ((with_reducible apply WH.lx); exact rfl; exact rfl; exact rfl) | ((with_reducible apply WH.nil)) | (with_reducible refine W.draw ?_) | ((with_reducible apply WR.bx); exact rfl; exact rfl; exact IsLev.len (by assumption); (first | exact rfl)) | ((with_reducible apply WR.bo); exact rfl; exact rfl; (first | exact rfl)) | ((with_reducible apply WH.ia); exact rfl; exact rfl; exact rfl; omega; exact rfl) | ((with_reducible apply WH.fa); exact rfl; exact rfl; exact rfl) | ((with_reducible apply WR.mv); exact rfl; exact rfl) | ((with_reducible apply WH.mv); exact rfl; exact rfl; exact rfl) | ((with_reducible apply WH.cv); exact rfl; exact rfl; (first | exact lev_wrap (by assumption) (by omega)))
  all_goals first | rfl | exact rb_t (by first | assumption | omega | (simp only [Is] at *; omega)) | exact rb_f (by first | assumption | omega | (simp only [Is] at *; omega))

end Go.DM

/- Moles: codes, cells beside. -/
set_option linter.unusedSimpArgs false
set_option linter.unusedVariables false
namespace Go.DM
open Go.IntWalk
variable {w h : Int} {g : Nat → Int} {cs : List S} {q : Nat → Int} {qs : List S}

end Go.DM
