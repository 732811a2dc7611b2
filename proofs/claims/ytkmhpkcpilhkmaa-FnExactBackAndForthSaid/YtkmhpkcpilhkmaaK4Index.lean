/- slices.Index over cells. -/
import Derived.Test.YtkmhpkcpilhkmaaK4Night
set_option linter.unusedSimpArgs false
set_option linter.unusedVariables false
namespace Go.DM
open Go.IntWalk

theorem index_gives (l : List Cel) (hl : l.length ≤ 1000) (x y : Int) : Gives G 27 [asl l, ac x y] (ri .i64 (idxOf (fun c => x = c.1 ∧ y = c.2) l 0)) := by
  refine Gives.by rfl rfl (W.seq ?_)
  repeat' first | ((with_reducible apply WR.mv); exact rfl; exact rfl) | ((with_reducible apply WR.nil)) | (with_reducible refine andThen_n ?_) | (with_reducible refine W.seq ?_) | (with_reducible refine W.region ?_) | (with_reducible refine W.block ?_) | ((with_reducible apply WR.bo); exact rfl; exact rfl; (first | exact rfl)) | ((with_reducible apply WR.le); exact rfl; exact rfl)
  refine W.loopI (fun n σ => ∃ i : Int, n = (l.length - i).toNat ∧ 0 ≤ i ∧ i ≤ l.length ∧ idxOf (fun c => x = c.1 ∧ y = c.2) l 0 = idxOf (fun c => x = c.1 ∧ y = c.2) (l.drop i.toNat) i ∧ σ.env 8 = .a (.d (.s (.int .i64 i))) ∧ σ.env 7 = .a (.d (.s (.int .i64 (l.length : Nat)))) ∧ σ.env 0 = .a (.d (.sl l.length 2 (encC l))) ∧ σ.env 3 = .a (.ptr 3 0) ∧ σ.objs 3 = some (.flat false [.int .i8 x, .int .i8 y]))
    ?_ _ _ ⟨0, rfl, by omega, by omega, rfl, rfl, rfl, rfl, rfl, rfl⟩
  rintro n σ ⟨i, rfl, i0, i1, hi, e8, e7, e0, e3, o3⟩
  rw [← set_self e8, ← set_self e7, ← set_self e0, ← set_self e3, ← put_self o3]
  repeat' first | ((with_reducible apply WR.mv); exact rfl; exact rfl) | ((with_reducible apply WR.nil)) | (with_reducible refine andThen_n ?_) | (with_reducible refine andThen_x ?_) | (with_reducible refine inB_x ?_) | (with_reducible refine W.seq ?_) | (with_reducible refine W.region ?_) | (with_reducible refine W.skip ?_) | (with_reducible refine W.ret ?_) | (with_reducible refine W.exit ?_) | (with_reducible refine W.block ?_) | ((with_reducible apply W.condT); exact rfl) | ((with_reducible apply W.condF); exact rfl) | ((with_reducible apply Done.r); exact rfl) | (with_reducible refine W.draw ?_) | (intro hb; try (exfalso; omega)) | ((with_reducible apply WH.mv); exact rfl; exact rfl; exact rfl) | ((with_reducible apply WH.lx); exact rfl; exact rfl; exact rfl) | ((with_reducible apply WR.lss); exact rfl; exact rfl; exact rfl)
  · obtain ⟨c, hc⟩ := get_of_lt i0 (by assumption)
    (with_reducible apply WH.id); exact rfl; exact rfl; exact rfl; exact ⟨i0, by assumption⟩; exact Nat.le_of_eq (encC_length l).symm; exact rfl
    (with_reducible apply WH.ldd); exact rfl; exact rfl; exact encC_load l _ c hc; exact rfl
    repeat' first | ((with_reducible apply WR.mv); exact rfl; exact rfl) | ((with_reducible apply WR.nil)) | (with_reducible refine andThen_n ?_) | (with_reducible refine andThen_r ?_) | (with_reducible refine inB_n ?_) | (with_reducible refine inB_r ?_) | (with_reducible refine W.seq ?_) | (with_reducible refine W.region ?_) | (with_reducible refine W.skip ?_) | (with_reducible refine W.ret ?_) | ((with_reducible apply W.condT); exact rfl) | ((with_reducible apply W.condF); exact rfl) | ((with_reducible apply Done.r); exact rfl) | ((with_reducible apply WH.nil)) | (intro hb; try (exfalso; omega)) | ((with_reducible apply WR.ad); exact rfl; exact rfl; exact rfl; (first | exact i64_in _ (by omega))) | ((with_reducible apply WH.ec); exact rfl; exact rfl; exact rfl)
    all_goals first
      | (rw [hi, idxOf_step _ i0 hc, if_pos (by assumption)]; rfl)
      | exact ⟨_, by omega, i + 1, rfl, by omega, by omega, by rw [hi, idxOf_step _ i0 hc, if_neg (by assumption)], rfl, rfl, rfl, rfl, rfl⟩
  · have : l.drop i.toNat = [] := List.drop_eq_nil_of_le (by omega)
    rw [hi, this]; rfl
end Go.DM
