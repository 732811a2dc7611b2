/- Valid lawns: both sides. -/
import Derived.Test.YteghgkdakhelfaaDoorK218Lawn
set_option linter.unusedSimpArgs false
set_option linter.unusedVariables false
namespace Go.DM
open Go.IntWalk
variable {w h : Int} {g : Nat → Int} {cs : List S}

theorem validLawn_gives (l : IsLawn w h g cs) : Gives G 30 [aa cs] (rb (decide (LawnOk w h g))) := by
  refine Gives.by rfl rfl (W.seq ?_)
  repeat' first | ((with_reducible apply WR.cp); exact rfl; exact rfl; exact rfl; exact rfl; exact within_gives _ _ _; exact rfl) | ((with_reducible apply WR.mv); exact rfl; exact rfl) | ((with_reducible apply WR.off); exact rfl) | ((with_reducible apply WR.ld); exact rfl; exact rfl; exact rfl; (first | exact lawn_w (by assumption) | exact lawn_h (by assumption))) | ((with_reducible apply WR.un); exact rfl; exact rfl) | ((with_reducible apply WR.pk); exact rfl; exact rfl) | ((with_reducible apply WR.fa); exact rfl; exact rfl) | ((with_reducible apply WR.nil)) | (with_reducible refine andThen_n ?_) | (with_reducible refine andThen_r ?_) | (with_reducible refine W.seq ?_) | (with_reducible refine W.region ?_) | (with_reducible refine W.skip ?_) | (with_reducible refine W.ret ?_) | (with_reducible refine W.block ?_) | ((with_reducible apply W.condT); exact rfl) | ((with_reducible apply W.condF); exact rfl) | ((with_reducible apply Done.r); exact rfl) | (intro hb; try (exfalso; omega)) | ((with_reducible apply WR.cv); exact rfl; exact rfl; (first | exact lawn_ww (by assumption) | exact lawn_hw (by assumption))) | ((with_reducible apply WR.bx); exact rfl; exact rfl; exact IsLawn.len (by assumption); (first | exact rfl))
  all_goals first | exact rb_f (by simp only [LawnOk]; omega) | skip
  refine W.loopI (fun n σ => ∃ y : Int, n = (10 - y).toNat ∧ 0 ≤ y ∧ y ≤ 10 ∧ (∀ k, k < 10 * y.toNat → cellOk w h g k) ∧ σ.env 18 = .a (.d (.s (.int .i8 y))) ∧ σ.env 1 = .a (.ptr 1 0) ∧ σ.objs 1 = some (.flat false cs)) ?_ 10 _ ⟨0, rfl, by omega, by omega, fun k hk => by omega, rfl, rfl, rfl⟩
  rintro n σ ⟨y, rfl, y0, y1, hok, e18, e1, o1⟩
  rw [← set_self e18, ← set_self e1, ← put_self o1]
  repeat' first | ((with_reducible apply WR.mv); exact rfl; exact rfl) | ((with_reducible apply WR.nil)) | (with_reducible refine andThen_n ?_) | (with_reducible refine andThen_x ?_) | (with_reducible refine inB_x ?_) | (with_reducible refine W.seq ?_) | (with_reducible refine W.region ?_) | (with_reducible refine W.skip ?_) | (with_reducible refine W.ret ?_) | (with_reducible refine W.exit ?_) | (with_reducible refine W.block ?_) | ((with_reducible apply W.condT); exact rfl) | ((with_reducible apply W.condF); exact rfl) | ((with_reducible apply Done.r); exact rfl) | (intro hb; try (exfalso; omega)) | ((with_reducible apply WR.lss); exact rfl; exact rfl; exact rfl)
  · refine W.loopI (fun n σ => ∃ x : Int, n = (10 - x).toNat ∧ 0 ≤ x ∧ x ≤ 10 ∧ (∀ k, k < 10 * y.toNat + x.toNat → cellOk w h g k) ∧ σ.env 21 = .a (.d (.s (.int .i8 x))) ∧ σ.env 18 = .a (.d (.s (.int .i8 y))) ∧ σ.env 3 = .a (.d (.s (.int .i8 y))) ∧ σ.env 1 = .a (.ptr 1 0) ∧ σ.objs 1 = some (.flat false cs))
      ?_ 10 _ ⟨0, rfl, by omega, by omega, by simpa using hok, rfl, rfl, rfl, rfl, rfl⟩
    clear hok e18 e1 o1
    rintro n σ ⟨x, rfl, x0, x1, hok, e21, e18, e3, e1, o1⟩
    rw [← set_self e21, ← set_self e18, ← set_self e3, ← set_self e1, ← put_self o1]
    repeat' first | ((with_reducible apply WR.cp); exact rfl; exact rfl; exact rfl; exact rfl; exact has_gives (by assumption) _ _; exact rfl) | ((with_reducible apply WR.mv); exact rfl; exact rfl) | ((with_reducible apply WR.off); exact rfl) | ((with_reducible apply WR.ld); exact rfl; exact rfl; exact rfl; (first | exact lawn_c (by assumption) (by omega) | exact loadC_all (IsLawn.len (by assumption)))) | ((with_reducible apply WR.un); exact rfl; exact rfl) | ((with_reducible apply WR.pk); exact rfl; exact rfl) | ((with_reducible apply WR.fa); exact rfl; exact rfl) | ((with_reducible apply WR.nil)) | (with_reducible refine andThen_n ?_) | (with_reducible refine andThen_x ?_) | (with_reducible refine andThen_r ?_) | (with_reducible refine inB_n ?_) | (with_reducible refine inB_r ?_) | (with_reducible refine inB_x ?_) | (with_reducible refine W.seq ?_) | (with_reducible refine W.region ?_) | (with_reducible refine W.skip ?_) | (with_reducible refine W.ret ?_) | (with_reducible refine W.exit ?_) | (with_reducible refine W.block ?_) | ((with_reducible apply W.condT); exact rfl) | ((with_reducible apply W.condF); exact rfl) | ((with_reducible apply Done.r); exact rfl) | (intro hb; try (exfalso; omega)) | ((with_reducible apply WR.lss); exact rfl; exact rfl; exact rfl) | ((with_reducible apply WR.ad); exact rfl; exact rfl; exact rfl; (first | exact i8_in _ (by omega))) | ((with_reducible apply WR.ia); exact rfl; exact rfl; exact rfl; omega) | ((with_reducible apply WR.gtr); exact rfl; exact rfl; exact rfl) | ((with_reducible apply WR.neq); exact rfl; exact rfl; exact rfl) | ((with_reducible apply WR.bu); exact rfl; exact rfl)
    all_goals first
      | exact rb_f (fun hl => by have := hl.2.2 (10 * y.toNat + x.toNat) (by omega); simp only [cellOk] at this; omega)
      | exact ⟨_, by omega, x + 1, rfl, by omega, by omega, upTo1 x0 hok (by simp only [cellOk]; omega), rfl, rfl, rfl, rfl, rfl⟩
      | exact ⟨_, by omega, y + 1, rfl, by omega, by omega, upTo2 y0 (by omega) hok, rfl, rfl, rfl⟩
      | skip
  · exact rb_t ⟨by omega, by omega, fun k hk => hok k (by omega)⟩

variable {q : Nat → Int} {qs : List S}
end Go.DM

/- Moles: what the functions of both sides give. -/
set_option linter.unusedSimpArgs false
set_option linter.unusedVariables false
namespace Go.DM
open Go.IntWalk
variable {w h : Int} {g : Nat → Int} {cs : List S} {q : Nat → Int} {qs : List S}

end Go.DM

/- Moles: codes, cells beside. -/
set_option linter.unusedSimpArgs false
set_option linter.unusedVariables false
namespace Go.DM
open Go.IntWalk
variable {w h : Int} {g : Nat → Int} {cs : List S} {q : Nat → Int} {qs : List S}

end Go.DM
