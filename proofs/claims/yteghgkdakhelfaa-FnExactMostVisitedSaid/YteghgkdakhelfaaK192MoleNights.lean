/- What the statements do with rows of cells and of numbers: they are compared, marked, and looked at again. -/
import Derived.Test.YteghgkdakhelfaaK192Loop
import Derived.Test.YteghgkdakhelfaaK192NightsS
import Derived.Test.YteghgkdakhelfaaK192Laws
set_option linter.unusedSimpArgs false
set_option linter.unusedVariables false
set_option maxHeartbeats 4000000
namespace Go.DM
open Go.IntWalk

theorem eqCell_gives (x y x' y' : Int) : Gives G 161 [ac x y, ac x' y'] (rb (decide (x = x' ∧ y = y'))) := by
  refine Gives.by rfl rfl (W.seq ?_)
  repeat' first | ((with_reducible apply WR.mv); exact rfl; exact rfl) | ((with_reducible apply WR.lx); exact rfl; exact rfl) | ((with_reducible apply WR.fa); exact rfl; exact rfl) | ((with_reducible apply WR.nil)) | (with_reducible refine andThen_n ?_) | (with_reducible refine andThen_r ?_) | (with_reducible refine W.seq ?_) | (with_reducible refine W.region ?_) | (with_reducible refine W.skip ?_) | (with_reducible refine W.ret ?_) | ((with_reducible apply W.condT); exact rfl) | ((with_reducible apply W.condF); exact rfl) | ((with_reducible apply Done.f); (intro hh hh2; exact (nomatch hh2)); (focus ((repeat' first | exact all_nil | apply all_cons | exact res_tmp rfl | exact rfl); done)); (focus ((repeat' first | exact all_nil | apply all_cons | exact retOf_s rfl | exact rfl); done)); exact rfl; (focus ((repeat' first | exact outs_nil | apply outs_d | exact rfl); done))) | (intro hb; try (exfalso; omega)) | ((with_reducible apply WR.neq); exact rfl; exact rfl; exact rfl) | ((with_reducible apply WR.bx); exact rfl; exact rfl; exact (by first | exact rfl); (first | exact rfl))
  all_goals first | rfl | exact rb_t (by first | assumption | omega | (simp only [Is] at *; omega)) | exact rb_f (by first | assumption | omega | (simp only [Is] at *; omega))
def marks (k : Int) (n : Nat) : List Cel := (List.range n).map fun (i : Nat) => (IntKind.i8.wrap (k + 2 * (i : Nat)), IntKind.i8.wrap (k + 2 * (i : Nat) + 1))
theorem marks_len (k : Int) (n : Nat) : (marks k n).length = n := by simp [marks]
theorem marks_get {k : Int} {n i : Nat} (h : i < n) : (marks k n)[i]? = some (IntKind.i8.wrap (k + 2 * (i : Nat)), IntKind.i8.wrap (k + 2 * (i : Nat) + 1)) := by simp [marks, h]
theorem marks_gC {k : Int} {n i : Nat} (h : i < n) : gC (marks k n) i = (IntKind.i8.wrap (k + 2 * (i : Nat)), IntKind.i8.wrap (k + 2 * (i : Nat) + 1)) := by
  simp [gC, List.getD_eq_getElem?_getD, marks_get h]
theorem mark_step {m : List Cel} {i : Nat} {a b : Int} (h : i < m.length) : (m.set i (a, (gC m i).2)).set i ((gC (m.set i (a, (gC m i).2)) i).1, b) = m.set i (a, b) := by
  rw [List.set_set]; congr 2; simp [gC, List.getD_eq_getElem?_getD, h]
theorem take_set_succ {α : Type} {m r : List α} {i : Nat} {c : α} (hi : i < m.length) (hr : r[i]? = some c) (ht : m.take i = r.take i) : (m.set i c).take (i + 1) = r.take (i + 1) := by
  rw [List.take_add_one, List.take_add_one, List.take_set_of_le (Nat.le_refl _), List.getElem?_set_self hi, ht, hr]
def marksI (k : Int) (n : Nat) : List Int := (List.range n).map fun (i : Nat) => k + (i : Nat)
theorem marksI_len (k : Int) (n : Nat) : (marksI k n).length = n := by simp [marksI]
theorem marksI_get {k : Int} {n i : Nat} (h : i < n) : (marksI k n)[i]? = some (k + (i : Nat)) := by simp [marksI, h]
theorem marksI_gI {k : Int} {n i : Nat} (h : i < n) : gI (marksI k n) i = k + (i : Nat) := by
  simp [gI, List.getD_eq_getElem?_getD, marksI_get h]
end Go.DM

/- Some nights of a mole: the program's side, the statement. -/
set_option linter.unusedSimpArgs false
set_option linter.unusedVariables false
set_option maxHeartbeats 4000000
namespace Go.DM
open Go.IntWalk
variable {w h : Int} {g : Nat → Int} {cs : List S} {q : Nat → Int} {qs : List S}

theorem moles_ok (v : IsLev q qs) {a : Cel} {n : Int} (hc : molesCode w h g q a n = 0) : (w ≤ 10 ∧ h ≤ 10) ∧ (0 ≤ n ∧ n ≤ 60) ∧ (0 ≤ a.1 ∧ a.1 < 10 ∧ 0 ≤ a.2 ∧ a.2 < 10) ∧ (Mole.mk q qs a a).Ok := by
  obtain ⟨hL, ⟨hn, hH⟩, hI⟩ := belowCode_zero.1 hc
  have hs : w ≤ 10 ∧ h ≤ 10 := ⟨hL.1.1.2, hL.1.2.1.2⟩
  have ha : 0 ≤ a.1 ∧ a.1 < 10 ∧ 0 ≤ a.2 ∧ a.2 < 10 := by omega
  exact ⟨hs, hn, ha, v, ha⟩
end Go.DM
