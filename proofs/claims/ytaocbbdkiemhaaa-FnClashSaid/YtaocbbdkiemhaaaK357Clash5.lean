/- Robots that clash: the walks through the law. -/
import Derived.Test.YtaocbbdkiemhaaaK357Clash4A
import Derived.Test.YtaocbbdkiemhaaaK357Clash4B
import Derived.Test.YtaocbbdkiemhaaaK357Clash4C
set_option linter.unusedSimpArgs false
set_option linter.unusedVariables false
namespace Go.DM
set_option linter.unusedSectionVars false
variable [Tok]
open Go.IntWalk
variable {w h : Int} {g : Nat → Int} {cs : List S}
theorem clash_main {x y : Cel} {a b : List Cel} (T : Two w h g cs x y a b) : Gives G 357 [.d (.s (.tok 0)), .d (.s (.tok 1))] (rb true) := by
  obtain ⟨due, p, q, one, wait, two, K⟩ := told2_is a b
  have K2 := K
  obtain ⟨_, _, hone, htwo, _⟩ := K2
  rcases hone with c1 | c1
  · rcases htwo with c2 | c2
    · exact clash_mainC T K c1 c2
    · exact clash_mainB T K c1 c2
  · exact clash_mainA T K c1
end Go.DM

/- Robots that clash: the statement. -/
set_option linter.unusedSimpArgs false
set_option linter.unusedVariables false
set_option maxHeartbeats 8000000
namespace Go.DM
set_option linter.unusedSectionVars false
variable [Tok]
open Go.IntWalk
theorem law_Clash (u0 : (Tok.dat 0).length ≤ 9223372036854775807) (u1 : (Tok.dat 1).length ≤ 9223372036854775807) : Gives G 357 [.d (.s (.tok 0)), .d (.s (.tok 1))] (rb true) := by
  have hbig0 := f6big_gives 0 u0
  have hbig1 := f6big_gives 1 u1
  by_cases b0 : 4096 < (Tok.dat 0).length
  · rw [decide_eq_true b0] at hbig0
    refine Gives.by rfl rfl (W.seq ?_)
    repeat' first | ((with_reducible apply WR.c_s (f := 358) (fn := Code.f358)); exact rfl; exact rfl; exact rfl; (first | exact rfl); (focus ((repeat' first | exact args_nil | apply args_d | exact toD_d rfl | exact all_nil | apply all_cons | exact rfl); done)); exact hbig0) | ((with_reducible apply WR.mv); exact rfl; exact rfl) | ((with_reducible apply WR.off); exact rfl) | ((with_reducible apply WR.pk); exact rfl; exact rfl) | ((with_reducible apply WR.nil)) | (with_reducible refine andThen_n ?_) | (with_reducible refine andThen_r ?_) | (with_reducible refine W.seq ?_) | (with_reducible refine W.region ?_) | (with_reducible refine W.ret ?_) | ((with_reducible apply W.condT); exact rfl) | ((with_reducible apply Done.f); (intro hh hh2; exact (nomatch hh2)); (focus ((repeat' first | exact all_nil | apply all_cons | exact res_tmp rfl | exact rfl); done)); (focus ((repeat' first | exact all_nil | apply all_cons | exact retOf_s rfl | exact rfl); done)); exact rfl; (focus ((repeat' first | exact outs_nil | apply outs_d | exact rfl); done)))
    rfl
  by_cases b1 : 4096 < (Tok.dat 1).length
  · rw [decide_eq_false b0] at hbig0
    rw [decide_eq_true b1] at hbig1
    refine Gives.by rfl rfl (W.seq ?_)
    repeat' first | ((with_reducible apply WR.c_s (f := 358) (fn := Code.f358)); exact rfl; exact rfl; exact rfl; (first | exact rfl); (focus ((repeat' first | exact args_nil | apply args_d | exact toD_d rfl | exact all_nil | apply all_cons | exact rfl); done)); exact hbig0) | ((with_reducible apply WR.c_s (f := 358) (fn := Code.f358)); exact rfl; exact rfl; exact rfl; (first | exact rfl); (focus ((repeat' first | exact args_nil | apply args_d | exact toD_d rfl | exact all_nil | apply all_cons | exact rfl); done)); exact hbig1) | ((with_reducible apply WR.mv); exact rfl; exact rfl) | ((with_reducible apply WR.pk); exact rfl; exact rfl) | ((with_reducible apply WR.nil)) | (with_reducible refine andThen_n ?_) | (with_reducible refine andThen_r ?_) | (with_reducible refine W.seq ?_) | (with_reducible refine W.region ?_) | (with_reducible refine W.ret ?_) | ((with_reducible apply W.condT); exact rfl) | ((with_reducible apply Done.f); (intro hh hh2; exact (nomatch hh2)); (focus ((repeat' first | exact all_nil | apply all_cons | exact res_tmp rfl | exact rfl); done)); (focus ((repeat' first | exact all_nil | apply all_cons | exact retOf_s rfl | exact rfl); done)); exact rfl; (focus ((repeat' first | exact outs_nil | apply outs_d | exact rfl); done)))
    rfl
  rw [decide_eq_false b0] at hbig0
  rw [decide_eq_false b1] at hbig1
  obtain ⟨w, h, g, hw, hh, hk, hlawn⟩ := p6lawn_gives 0 (by omega)
  have l := lwn_is hw hh hk
  have hL := lwn_ok hw hh hk
  generalize lwn w h g = cs at hlawn l
  obtain ⟨r1, ⟨x, bx, hbx, hbx0, rfl⟩, o1⟩ := p6open_gives l hL 1 (by omega)
  obtain ⟨r0, ⟨y, by_, hby, hby0, rfl⟩, o0⟩ := p6open_gives l hL 0 (by omega)
  cases bx with
  | false =>
    have hno := bestHome_none l hL (hbx0 rfl)
    refine Gives.by rfl rfl (W.seq ?_)
    repeat' first | ((with_reducible apply WR.c_s (f := 358) (fn := Code.f358)); exact rfl; exact rfl; exact rfl; (first | exact rfl); (focus ((repeat' first | exact args_nil | apply args_d | exact toD_d rfl | exact all_nil | apply all_cons | exact rfl); done)); exact hbig0) | ((with_reducible apply WR.c_s (f := 358) (fn := Code.f358)); exact rfl; exact rfl; exact rfl; (first | exact rfl); (focus ((repeat' first | exact args_nil | apply args_d | exact toD_d rfl | exact all_nil | apply all_cons | exact rfl); done)); exact hbig1) | ((with_reducible apply WR.c_a (f := 359) (fn := Code.f359)); exact rfl; exact rfl; exact rfl; (first | exact rfl); (focus ((repeat' first | exact args_nil | apply args_d | exact toD_d rfl | exact all_nil | apply all_cons | exact rfl); done)); exact hlawn) | ((with_reducible apply WR.c_as (f := 368) (fn := Code.f368)); exact rfl; exact rfl; exact rfl; (first | exact rfl); (focus ((repeat' first | exact args_nil | apply args_d | exact toD_d rfl | exact all_nil | apply all_cons | exact rfl); done)); exact o1) | ((with_reducible apply WR.c_as (f := 368) (fn := Code.f368)); exact rfl; exact rfl; exact rfl; (first | exact rfl); (focus ((repeat' first | exact args_nil | apply args_d | exact toD_d rfl | exact all_nil | apply all_cons | exact rfl); done)); exact o0) | ((with_reducible apply WR.c_ass (f := 369) (fn := Code.f369)); exact rfl; exact rfl; exact rfl; (first | exact rfl); (focus ((repeat' first | exact args_nil | apply args_d | exact toD_d rfl | exact all_nil | apply all_cons | exact rfl); done)); exact hno) | ((with_reducible apply WR.mv); exact rfl; exact rfl) | ((with_reducible apply WR.mvt); exact rfl; exact rfl) | ((with_reducible apply WR.off); exact rfl) | ((with_reducible apply WR.ex); exact rfl; exact rfl) | ((with_reducible apply WR.ld); exact rfl; exact rfl; exact rfl; (first | exact loadC_all (IsLawn.len (by assumption)))) | ((with_reducible apply WR.pk); exact rfl; exact rfl) | ((with_reducible apply WR.eql); exact rfl; exact rfl; exact rfl) | ((with_reducible apply WR.al); exact rfl; (first | (focus ((repeat' first | (with_reducible apply noPar_set) | ((with_reducible apply noPar_puto); exact rfl) | (with_reducible apply noPar_kill) | exact rfl); done)) | exact rfl)) | ((with_reducible apply WR.st); exact rfl; exact rfl; exact rfl; exact st2) | ((with_reducible apply WR.st); exact rfl; exact rfl; exact rfl; exact storeAll (by first | exact IsLawn.len (by assumption) | exact rfl) (by first | exact IsLawn.len (by assumption) | exact rfl)) | ((with_reducible apply WR.un); exact rfl; exact rfl) | ((with_reducible apply WR.nil)) | (with_reducible refine andThen_n ?_) | (with_reducible refine andThen_r ?_) | (with_reducible refine W.seq ?_) | (with_reducible refine W.region ?_) | (with_reducible refine W.skip ?_) | (with_reducible refine W.ret ?_) | ((with_reducible apply W.condT); exact rfl) | ((with_reducible apply W.condF); exact rfl) | ((with_reducible apply Done.f); (intro hh hh2; exact (nomatch hh2)); (focus ((repeat' first | exact all_nil | apply all_cons | exact res_tmp rfl | exact rfl); done)); (focus ((repeat' first | exact all_nil | apply all_cons | exact retOf_s rfl | exact rfl); done)); exact rfl; (focus ((repeat' first | exact outs_nil | apply outs_d | exact rfl); done))) | (intro hb; try (exfalso; omega))
    all_goals first | rfl | (exfalso; revert hb; simp; done)
  | true =>
    cases by_ with
    | false =>
      have hno := bestHome_none l hL (hby0 rfl)
      refine Gives.by rfl rfl (W.seq ?_)
      repeat' first | ((with_reducible apply WR.c_s (f := 358) (fn := Code.f358)); exact rfl; exact rfl; exact rfl; (first | exact rfl); (focus ((repeat' first | exact args_nil | apply args_d | exact toD_d rfl | exact all_nil | apply all_cons | exact rfl); done)); exact hbig0) | ((with_reducible apply WR.c_s (f := 358) (fn := Code.f358)); exact rfl; exact rfl; exact rfl; (first | exact rfl); (focus ((repeat' first | exact args_nil | apply args_d | exact toD_d rfl | exact all_nil | apply all_cons | exact rfl); done)); exact hbig1) | ((with_reducible apply WR.c_a (f := 359) (fn := Code.f359)); exact rfl; exact rfl; exact rfl; (first | exact rfl); (focus ((repeat' first | exact args_nil | apply args_d | exact toD_d rfl | exact all_nil | apply all_cons | exact rfl); done)); exact hlawn) | ((with_reducible apply WR.c_as (f := 368) (fn := Code.f368)); exact rfl; exact rfl; exact rfl; (first | exact rfl); (focus ((repeat' first | exact args_nil | apply args_d | exact toD_d rfl | exact all_nil | apply all_cons | exact rfl); done)); exact o1) | ((with_reducible apply WR.c_as (f := 368) (fn := Code.f368)); exact rfl; exact rfl; exact rfl; (first | exact rfl); (focus ((repeat' first | exact args_nil | apply args_d | exact toD_d rfl | exact all_nil | apply all_cons | exact rfl); done)); exact o0) | ((with_reducible apply WR.c_ass (f := 369) (fn := Code.f369)); exact rfl; exact rfl; exact rfl; (first | exact rfl); (focus ((repeat' first | exact args_nil | apply args_d | exact toD_d rfl | exact all_nil | apply all_cons | exact rfl); done)); exact hno) | ((with_reducible apply WR.mv); exact rfl; exact rfl) | ((with_reducible apply WR.mvt); exact rfl; exact rfl) | ((with_reducible apply WR.ex); exact rfl; exact rfl) | ((with_reducible apply WR.ld); exact rfl; exact rfl; exact rfl; (first | exact loadC_all (IsLawn.len (by assumption)))) | ((with_reducible apply WR.pk); exact rfl; exact rfl) | ((with_reducible apply WR.eql); exact rfl; exact rfl; exact rfl) | ((with_reducible apply WR.al); exact rfl; (first | (focus ((repeat' first | (with_reducible apply noPar_set) | ((with_reducible apply noPar_puto); exact rfl) | (with_reducible apply noPar_kill) | exact rfl); done)) | exact rfl)) | ((with_reducible apply WR.st); exact rfl; exact rfl; exact rfl; exact st2) | ((with_reducible apply WR.st); exact rfl; exact rfl; exact rfl; exact storeAll (by first | exact IsLawn.len (by assumption) | exact rfl) (by first | exact IsLawn.len (by assumption) | exact rfl)) | ((with_reducible apply WR.un); exact rfl; exact rfl) | ((with_reducible apply WR.nil)) | (with_reducible refine andThen_n ?_) | (with_reducible refine andThen_r ?_) | (with_reducible refine W.seq ?_) | (with_reducible refine W.region ?_) | (with_reducible refine W.skip ?_) | (with_reducible refine W.ret ?_) | ((with_reducible apply W.condT); exact rfl) | ((with_reducible apply W.condF); exact rfl) | ((with_reducible apply Done.f); (intro hh hh2; exact (nomatch hh2)); (focus ((repeat' first | exact all_nil | apply all_cons | exact res_tmp rfl | exact rfl); done)); (focus ((repeat' first | exact all_nil | apply all_cons | exact retOf_s rfl | exact rfl); done)); exact rfl; (focus ((repeat' first | exact outs_nil | apply outs_d | exact rfl); done))) | (intro hb; try (exfalso; omega))
      all_goals first | rfl | (exfalso; revert hb; simp; done)
    | true =>
      obtain ⟨ra, ⟨a, wa, la, _, rfl⟩, k0⟩ := p6walk_gives l hL 0 (by omega) x (hbx rfl)
      obtain ⟨rb_, ⟨b, wb, lb, _, rfl⟩, k1⟩ := p6walk_gives l hL 1 (by omega) y (hby rfl)
      exact clash_main (w := w) (h := h) (g := g) (cs := cs) (x := x) (y := y) (a := a) (b := b) ⟨l, hL, hbx rfl, hby rfl, wa, wb, la, lb, hbig0, hbig1, hlawn, o1, o0, k0, k1⟩
end Go.DM
