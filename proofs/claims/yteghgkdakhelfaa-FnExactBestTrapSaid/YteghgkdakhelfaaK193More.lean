/- Levels with one more; the closures of a mole's night. -/
import Derived.Test.YteghgkdakhelfaaK193Del
set_option linter.unusedSimpArgs false
set_option linter.unusedVariables false
namespace Go.DM
open Go.IntWalk
variable {w h : Int} {g : Nat → Int} {cs : List S} {q : Nat → Int} {qs : List S}

theorem storeAll {p : Bool} {n : Nat} {cs xs : List S} (h1 : xs.length = n) (h2 : cs.length = n) : storeO n (.a (.d (.agg xs))) 0 (.flat p cs) = some (.flat p xs) := by
  simp only [storeO, cellsOf]
  rw [if_pos ⟨h1, by omega⟩, List.drop_eq_nil_of_le (by omega)]
  simp
theorem finish_c {fn : Fn} {σ : St} {as : List Arg} {t n p : Nat} {b : Bool} {cs : List S} (hr : fn.res = [.cell t n true]) (he : σ.env t = .a (.ptr p 0)) (ho : σ.objs p = some (.flat b cs)) (hl : cs.length = n) (hm : outsOf σ 0 as = some []) :
    finish fn as σ = some ⟨[.agg cs], []⟩ := by
  simp only [finish, hr, all?, resV, he, load, ho, loadC_all hl, Option.bind_some, Option.map_some, retOf]
  simp [nodup, hm]
/-- Levels with another number at a place. -/
def levSet (q : Nat → Int) (k : Nat) (n : Int) : Nat → Int := fun i => if i = k then n else q i
theorem IsLev.set (v : IsLev q qs) {k : Nat} (hk : k < 100) {n : Int} (hn : -128 ≤ n ∧ n ≤ 127) : IsLev (levSet q k n) (qs.set k (.int .i8 n)) := by
  refine ⟨fun i hi => ?_, by rw [List.length_set]; exact v.len, fun i hi => ?_⟩
  · simp only [levSet]; split
    · exact hn
    · exact v.cb i hi
  · simp only [levSet]
    by_cases e : i = k
    · subst e; rw [if_pos rfl, List.getElem?_set_self (by rw [v.len]; exact hi)]
    · rw [if_neg e, List.getElem?_set_ne (fun h => e h.symm)]; exact v.c i hi
theorem storeL (v : IsLev q qs) {p : Bool} {x y n : Int} (hb : 0 ≤ x ∧ x < 10 ∧ 0 ≤ y ∧ y < 10) : storeO 1 (.a (.d (.s (.int .i8 n)))) (0 + y.toNat * 10 + x.toNat * 1) (.flat p qs) = some (.flat p (qs.set (10 * y.toNat + x.toNat) (.int .i8 n))) := by
  have e : 0 + y.toNat * 10 + x.toNat * 1 = 10 * y.toNat + x.toNat := by omega
  have hl := v.len
  simp only [storeO, cellsOf, e]
  rw [if_pos ⟨rfl, by omega⟩]
  congr 2
  rw [List.set_eq_take_append_cons_drop, if_pos (by omega)]
  simp

theorem more_gives (v : IsLev q qs) (x y n : Int) (hb : 0 ≤ x ∧ x < 10 ∧ 0 ≤ y ∧ y < 10) (hn : -128 ≤ n ∧ n ≤ 127) (hq : -128 ≤ q (10 * y.toNat + x.toNat) + n ∧ q (10 * y.toNat + x.toNat) + n ≤ 127) :
    Gives G 98 [aa qs, ac x y, ai .i64 n] ⟨[.agg (qs.set (10 * y.toNat + x.toNat) (.int .i8 (q (10 * y.toNat + x.toNat) + n)))], []⟩ := by
  refine Gives.by rfl rfl (W.seq ?_)
  repeat' first | ((with_reducible apply WH.ia); exact rfl; exact rfl; exact rfl; omega; exact rfl) | ((with_reducible apply WR.nil)) | (with_reducible refine andThen_n ?_) | (with_reducible refine W.seq ?_) | (with_reducible refine W.region ?_) | ((with_reducible apply WH.ld); exact rfl; exact rfl; exact rfl; (first | exact lev_c (by assumption) (by omega)); exact rfl) | ((with_reducible apply WH.lx); exact rfl; exact rfl; exact rfl) | (with_reducible refine W.draw ?_) | ((with_reducible apply WR.bx); exact rfl; exact rfl; exact IsLev.len (by assumption); (first | exact rfl)) | ((with_reducible apply WR.bo); exact rfl; exact rfl; (first | exact rfl)) | ((with_reducible apply WH.fa); exact rfl; exact rfl; exact rfl) | ((with_reducible apply WR.al); exact rfl; (first | exact rfl)) | ((with_reducible apply WH.mv); exact rfl; exact rfl; exact rfl) | ((with_reducible apply WH.cv); exact rfl; exact rfl; (first | exact i8_in _ (by omega))) | ((with_reducible apply WH.ad); exact rfl; exact rfl; exact rfl; (first | exact i8_in _ (by omega)))
  (with_reducible apply WH.st); exact rfl; exact rfl; exact rfl; exact storeL v hb; exact rfl; exact rfl
  have v' := v.set (show 10 * y.toNat + x.toNat < 100 by omega) hq
  repeat' first | (with_reducible refine andThen_n ?_) | (with_reducible refine W.seq ?_) | (with_reducible refine W.region ?_) | ((with_reducible apply WH.nil)) | ((with_reducible apply WR.ld); exact rfl; exact rfl; exact rfl; (first | exact loadC_all (IsLev.len (by assumption))))
  (with_reducible apply WR.st); exact rfl; exact rfl; exact rfl; exact storeAll v'.len rfl
  repeat' first | ((with_reducible apply WR.nil)) | (with_reducible refine andThen_n ?_) | (with_reducible refine W.ret ?_)
  exact Done.r (finish_c rfl rfl rfl v'.len rfl) rfl

theorem nightGrassNot_gives (l : IsLawn w h g cs) (x y : Int) (hs : w ≤ 10 ∧ h ≤ 10) : Gives G 95 [ac x y, ar cs] (rb (decide (¬ Is w h g 0 x y))) := by
  refine Gives.by rfl rfl (W.seq ?_)
  repeat' first | ((with_reducible apply WR.cp); exact rfl; exact rfl; exact rfl; exact rfl; exact grass_gives (by assumption) _ _ (.inl hs); exact rfl) | ((with_reducible apply WR.nil)) | (with_reducible refine andThen_n ?_) | (with_reducible refine W.seq ?_) | (with_reducible refine W.region ?_) | (with_reducible refine W.ret ?_) | ((with_reducible apply Done.r); exact rfl) | (intro hb; try (exfalso; omega)) | ((with_reducible apply WR.mv); exact rfl; exact rfl) | ((with_reducible apply WR.ldr); exact rfl; exact rfl; (first | exact loadC_all (IsLawn.len (by assumption)))) | ((with_reducible apply WR.lx); exact rfl; exact rfl) | ((with_reducible apply WR.bo); exact rfl; exact rfl; (first | exact rfl)) | ((with_reducible apply WR.un); exact rfl; exact rfl)
  · exact rb_f (fun h => h (by assumption))
  · exact rb_t (by assumption)
theorem nightBefore_gives (x y ax ay bx by' : Int) : Gives G 96 [ac x y, ar [.int .i8 ax, .int .i8 ay, .int .i8 bx, .int .i8 by']] (rb (decide (x = bx ∧ y = by'))) := by
  refine Gives.by rfl rfl (W.seq ?_)
  repeat' first | ((with_reducible apply WR.nil)) | (with_reducible refine andThen_n ?_) | (with_reducible refine W.seq ?_) | (with_reducible refine W.region ?_) | (with_reducible refine W.ret ?_) | ((with_reducible apply Done.r); exact rfl) | (intro hb; try (exfalso; omega)) | ((with_reducible apply WR.mv); exact rfl; exact rfl) | ((with_reducible apply WR.lx); exact rfl; exact rfl) | ((with_reducible apply WR.ec); exact rfl; exact rfl; exact rfl) | ((with_reducible apply WR.bo); exact rfl; exact rfl; (first | exact rfl)) | ((with_reducible apply WR.fa); exact rfl; exact rfl)
  all_goals first | rfl | exact rb_t (by first | assumption | omega | (simp only [Is] at *; omega)) | exact rb_f (by first | assumption | omega | (simp only [Is] at *; omega))
end Go.DM
