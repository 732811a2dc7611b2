/- Levels with one more; the closures of a mole's night. -/
import Derived.Test.YteghgkdakhelfaaDoorK216Del
set_option linter.unusedSimpArgs false
set_option linter.unusedVariables false
namespace Go.DM
open Go.IntWalk
variable {w h : Int} {g : Nat → Int} {cs : List S} {q : Nat → Int} {qs : List S}

theorem storeAll {p : Bool} {n : Nat} {cs xs : List S} (h1 : xs.length = n) (h2 : cs.length = n) : storeO n (.a (.d (.agg xs))) 0 (.flat p cs) = some (.flat p xs) := by
  simp only [storeO, cellsOf]
  rw [if_pos ⟨h1, by omega⟩, List.drop_eq_nil_of_le (by omega)]
  simp
theorem finish_c {fn : Fn} {σ : St} {as : List Arg} {t n p : Nat} {b : Bool} {cs : List S} (hr : fn.res = [.cell t n true]) (he : σ.env t = .a (.ptr p 0)) (ho : σ.objs p = some (.flat b cs)) (hl : cs.length = n) (hm : outsOf σ 0 as = some []) :
    finish fn as σ = some ⟨[.agg cs], []⟩ := by
  simp only [finish, hr, all?, resV, he, load, ho, loadC_all hl, Option.bind_some, Option.map_some, retOf]
  simp [nodup, hm]
/-- Levels with another number at a place. -/
def levSet (q : Nat → Int) (k : Nat) (n : Int) : Nat → Int := fun i => if i = k then n else q i
theorem IsLev.set (v : IsLev q qs) {k : Nat} (hk : k < 100) {n : Int} (hn : -128 ≤ n ∧ n ≤ 127) : IsLev (levSet q k n) (qs.set k (.int .i8 n)) := by
  refine ⟨fun i hi => ?_, by rw [List.length_set]; exact v.len, fun i hi => ?_⟩
  · simp only [levSet]; split
    · exact hn
    · exact v.cb i hi
  · simp only [levSet]
    by_cases e : i = k
    · subst e; rw [if_pos rfl, List.getElem?_set_self (by rw [v.len]; exact hi)]
    · rw [if_neg e, List.getElem?_set_ne (fun h => e h.symm)]; exact v.c i hi
theorem storeL (v : IsLev q qs) {p : Bool} {x y n : Int} (hb : 0 ≤ x ∧ x < 10 ∧ 0 ≤ y ∧ y < 10) : storeO 1 (.a (.d (.s (.int .i8 n)))) (0 + y.toNat * 10 + x.toNat * 1) (.flat p qs) = some (.flat p (qs.set (10 * y.toNat + x.toNat) (.int .i8 n))) := by
  have e : 0 + y.toNat * 10 + x.toNat * 1 = 10 * y.toNat + x.toNat := by omega
  have hl := v.len
  simp only [storeO, cellsOf, e]
  rw [if_pos ⟨rfl, by omega⟩]
  congr 2
  rw [List.set_eq_take_append_cons_drop, if_pos (by omega)]
  simp

end Go.DM
