/- Going back and forth: the statement. -/
import Derived.Test.YtkmhpkcpilhkmaaK4Back
import Derived.Test.YtkmhpkcpilhkmaaK4Laws
set_option linter.unusedSimpArgs false
set_option linter.unusedVariables false
set_option maxHeartbeats 4000000
namespace Go.DM
open Go.IntWalk
variable {w h : Int} {g : Nat → Int} {cs : List S}
section
variable {dsts : Nat → Option Nat} {ops : List Oper} {Q : St → Prop} {σ : St} {d : Option Nat} {gd : Option (Nat × Bool)} {l1 l2 l3 l4 : List Nat} {Γ : Nat → Option Fn}
theorem quiet_sne {a b : Opd} {s : List UInt8} (ha : ev σ.env a = .a (.d (.s (.str s)))) (hb : ev σ.env b = .a (.d (.s (.str s)))) : quiet σ (.bin .neq a b) = some (.a (.d (.s (.bool false)))) := by
  simp only [quiet, ha, hb, bin, strBin, bne_self_eq_false]; rfl
theorem WR.sne {a b : Opd} {s : List UInt8} (hw : wanted dsts σ.env gd = some true) (ha : ev σ.env a = .a (.d (.s (.str s)))) (hb : ev σ.env b = .a (.d (.s (.str s))))
    (K : WR Γ dsts ops Q (set d (.a (.d (.s (.bool false)))) σ)) : WR Γ dsts (⟨d, .bin .neq a b, gd, l1, l2, l3, l4⟩ :: ops) Q σ := WR.q hw (quiet_sne ha hb) K
end
theorem law_BackAndForth (l : IsLawn w h g cs) : Gives G 4 [aa cs] ⟨[.s (.bool true)], []⟩ := by
  obtain ⟨a, b, hS, hI⟩ : ∃ (a : List UInt8) (b : Int), Gives G 13 [aa cs] ⟨[.s (.str a), .s (.int .i64 b)], []⟩ ∧ Gives G 14 [aa cs] ⟨[.s (.str a), .s (.int .i64 b)], []⟩ := by
    by_cases h0 : backC w h g = 0
    · exact ⟨_, _, backS_ok l h0, back_ok l h0⟩
    · exact ⟨_, _, backS_no l h0, back_no l h0⟩
  refine Gives.by rfl rfl (W.seq ?_)
  repeat' first | ((with_reducible apply WR.c_ss (f := 13) (fn := Code.f13)); exact rfl; exact rfl; exact rfl; (first | exact rfl); (focus ((repeat' first | exact args_nil | apply args_d | exact toD_d rfl | exact all_nil | apply all_cons | exact rfl); done)); exact hS) | ((with_reducible apply WR.c_ss (f := 14) (fn := Code.f14)); exact rfl; exact rfl; exact rfl; (first | exact rfl); (focus ((repeat' first | exact args_nil | apply args_d | exact toD_d rfl | exact all_nil | apply all_cons | exact rfl); done)); exact hI) | ((with_reducible apply WR.sne); exact rfl; exact rfl; exact rfl) | ((with_reducible apply WR.c_a (f := 9) (fn := Code.f9)); exact rfl; exact rfl; exact rfl; (first | exact rfl); (focus ((repeat' first | exact args_nil | apply args_d | exact toD_d rfl | exact all_nil | apply all_cons | exact rfl); done)); exact toLawn_gives (by assumption)) | ((with_reducible apply WR.mv); exact rfl; exact rfl) | ((with_reducible apply WR.mvt); exact rfl; exact rfl) | ((with_reducible apply WR.ex); exact rfl; exact rfl) | ((with_reducible apply WR.nil)) | (with_reducible refine andThen_n ?_) | (with_reducible refine W.seq ?_) | (with_reducible refine W.region ?_) | (with_reducible refine W.skip ?_) | (with_reducible refine W.ret ?_) | ((with_reducible apply W.condF); exact rfl) | ((with_reducible apply Done.f); (intro hh hh2; exact (nomatch hh2)); (focus ((repeat' first | exact all_nil | apply all_cons | exact res_tmp rfl | exact rfl); done)); (focus ((repeat' first | exact all_nil | apply all_cons | exact retOf_s rfl | exact rfl); done)); exact rfl; (focus ((repeat' first | exact outs_nil | apply outs_d | exact rfl); done))) | (intro hb; try (exfalso; omega)) | ((with_reducible apply WR.neq); exact rfl; exact rfl; exact rfl) | ((with_reducible apply WR.ld); exact rfl; exact rfl; exact rfl; (first | exact loadC_all (IsLawn.len (by assumption)))) | ((with_reducible apply WR.bx); exact rfl; exact rfl; exact (by first | exact IsLawn.len (by assumption) | exact rfl); (first | exact rfl)) | ((with_reducible apply WR.pk); exact rfl; exact rfl)
  all_goals rfl
end Go.DM
