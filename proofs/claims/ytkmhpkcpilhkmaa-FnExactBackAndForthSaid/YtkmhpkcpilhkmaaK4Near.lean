/- Moles: codes, cells beside. -/
import Derived.Test.YtkmhpkcpilhkmaaK4Mole
set_option linter.unusedSimpArgs false
set_option linter.unusedVariables false
namespace Go.DM
open Go.IntWalk
variable {w h : Int} {g : Nat → Int} {cs : List S} {q : Nat → Int} {qs : List S}

theorem moleCode_gives (l : IsLawn w h g cs) (v : IsLev q qs) (n : Int) (ls : List Cel) (hl : ls.length ≤ 1000) :
    Gives G 25 [aa cs, aa qs, ai .i64 n, asl ls] (ri .i64 (belowCode (LevOk w h g q) ((∀ c ∈ ls, Has w h c.1 c.2) ∧ 0 ≤ n ∧ n ≤ 60) (∀ c ∈ ls, Is w h g 0 c.1 c.2))) := by
  refine Gives.by rfl rfl (W.seq ?_)
  repeat' first | ((with_reducible apply WR.cs); exact rfl; exact rfl; exact rfl; exact rfl; exact soilCode_gives (by assumption) (by assumption) ls hl; exact rfl) | ((with_reducible apply WR.cp); exact rfl; exact rfl; exact rfl; exact rfl; exact within_gives _ _ _; exact rfl) | ((with_reducible apply WR.cs); exact rfl; exact rfl; exact rfl; exact rfl; exact grassCode_gives (by assumption) ls hl; exact rfl) | ((with_reducible apply WR.mv); exact rfl; exact rfl) | ((with_reducible apply WR.ld); exact rfl; exact rfl; exact rfl; (first | exact loadC_all (IsLawn.len (by assumption)) | exact loadC_all (IsLev.len (by assumption)))) | ((with_reducible apply WR.nil)) | (with_reducible refine andThen_n ?_) | (with_reducible refine W.seq ?_) | (with_reducible refine W.region ?_) | (with_reducible refine W.skip ?_) | (with_reducible refine W.ret ?_) | ((with_reducible apply W.condT); exact rfl) | ((with_reducible apply W.condF); exact rfl) | ((with_reducible apply Done.r); exact rfl) | (intro hb; try (exfalso; omega)) | ((with_reducible apply WR.eql); exact rfl; exact rfl; exact rfl) | ((with_reducible apply WR.bx); exact rfl; exact rfl; exact IsLawn.len (by assumption); (first | exact rfl)) | ((with_reducible apply WR.bx); exact rfl; exact rfl; exact IsLev.len (by assumption); (first | exact rfl)) | ((with_reducible apply WR.off); exact rfl) | ((with_reducible apply WR.un); exact rfl; exact rfl) | ((with_reducible apply WR.pk); exact rfl; exact rfl)
  all_goals first
    | exact ri_congr (mcA (fun h => h.1) (by assumption) (by assumption))
    | exact ri_congr (mcB (by assumption) (by assumption))
    | exact ri_congr (mcC (by assumption))

theorem beside_gives (x y : Int) (hx : -127 ≤ x ∧ x ≤ 126 ∧ -127 ≤ y ∧ y ≤ 126) : Gives G 89 [ac x y] ⟨[.own 4 2 (encC (Near x y))], []⟩ := by
  refine Gives.by rfl rfl (W.seq ?_)
  repeat' first | ((with_reducible apply WR.lx); exact rfl; exact rfl) | ((with_reducible apply WR.fa); exact rfl; exact rfl) | ((with_reducible apply WR.bu); exact rfl; exact rfl) | ((with_reducible apply WR.nil)) | (with_reducible refine andThen_n ?_) | (with_reducible refine W.seq ?_) | (with_reducible refine W.region ?_) | (with_reducible refine W.ret ?_) | ((with_reducible apply Done.r); exact rfl) | ((with_reducible apply WR.mv); exact rfl; exact rfl) | ((with_reducible apply WR.ad); exact rfl; exact rfl; exact rfl; (first | exact i8_in _ (by omega))) | ((with_reducible apply WR.sb); exact rfl; exact rfl; exact rfl; (first | exact i8_in _ (by omega))) | ((with_reducible apply WR.bo); exact rfl; exact rfl; (first | exact rfl)) | ((with_reducible apply WR.bs); exact rfl; exact rfl; (first | exact rfl))
  all_goals rfl
end Go.DM
