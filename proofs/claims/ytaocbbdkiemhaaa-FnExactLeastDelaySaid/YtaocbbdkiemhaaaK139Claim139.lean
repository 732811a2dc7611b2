/- The program's LeastDelay gives what the reference's gives, for all arguments: the statement FnExactLeastDelay; no condition. -/
import Derived.Test.YtaocbbdkiemhaaaK139Tab
import Derived.Test.YtaocbbdkiemhaaaK139Open
import Derived.Test.YtaocbbdkiemhaaaK139Open2
import Derived.Test.YtaocbbdkiemhaaaK139Delay
import Derived.Test.YtaocbbdkiemhaaaRows
namespace Go.Proofs.Ytaocbbdkiemhaaa
open Go.ChangeShapes Go.WideShapes Go.ChangeAt Go.RowKit Go.DM
set_option linter.unusedVariables false
theorem own : ownKnob Try.prog.godebug = none := by kernel_rfl
theorem laidOut : laidOutB Try.prog = true := by kernel_rfl
theorem mixed : Try.prog.follows .mixedOrders = true := by kernel_rfl

set_option maxRecDepth 100000 in
theorem lifted (os : Os) (started : os.Started) (H : Type) (enc : TypeId × Value → H) :
    ReturnsInHanded {} Try.checked os 3 .any (Rows.fnExactLeastDelaySpec.pre6 enc Try.prog Try.f3 Rows.fnExactLeastDelayRow.domain false) (Rows.fnExactLeastDelaySpec.post enc Try.prog Try.f3 false true false false) := by
  refine returnsInHanded_of_change (C := Try.checked) own started (by kernel_rfl) Try.func3
    (ChangeSpec.witness6 (enc := enc) (C := Try.checked) false ⟨#[], #[.agg (#[.int .i8 0, .int .i8 0] ++ Array.replicate 100 (.int .u8 0)), .slice none 0 0, .slice none 0 0], []⟩ 8 (by kernel_rfl) (by kernel_rfl) (by kernel_rfl) (by kernel_rfl)) ?_
  intro W base args ds gs before hval0 hW hcnd _
  letI : Tok := Tok.none
  have hval : ∀ (j : Nat) t v, Try.f3.params[j]? = some t → args[j]? = some v → Value.okWide Try.prog W .any base t v := hval0
  have hW' := hW
  obtain ⟨p, q, hA0, hV, rfl, hfz, hnd⟩ := hW
  have hA : DataW.TrodAll enc Try.prog W 0 (fun _ => true) true Try.f3.params.toList args.toList ds p := hA0
  rw [Try.params3] at hA hval
  obtain ⟨v0, vs0, d0, ds0, p0, q0, hargs, rfl, rfl, h0, r0⟩ := trodAll_cons hA
  obtain ⟨v1, vs1, d1, ds1, p1, q1, rfl, rfl, rfl, h1, r1⟩ := trodAll_cons r0
  obtain ⟨v2, vs2, d2, ds2, p2, q2, rfl, rfl, rfl, h2, r2⟩ := trodAll_cons r1
  obtain ⟨rfl, rfl, rfl⟩ := trodAll_nil r2
  obtain rfl : args = #[v0, v1, v2] := by cases args; simp_all
  obtain ⟨rfl, rfl⟩ := trodVars_none hV
  have lt0 : ∀ x ∈ p0, x.block < W.heap.size := by obtain ⟨m, hm⟩ := h0; exact DataW.trod_lt m _ _ _ hm
  have lt1 : ∀ x ∈ p1, x.block < W.heap.size := by obtain ⟨m, hm⟩ := h1; exact DataW.trod_lt m _ _ _ hm
  have lt2 : ∀ x ∈ p2, x.block < W.heap.size := by obtain ⟨m, hm⟩ := h2; exact DataW.trod_lt m _ _ _ hm
  obtain ⟨s0, rfl, w0⟩ := open_agg (ks := lawnKs) (by kernel_rfl) (by kernel_rfl) (hval 0 26 v0 rfl rfl) h0
  obtain ⟨rw1, wf1, len1, rel1⟩ := open_rows (ρ := R) (e := 75) (ks := cellKs) (by kernel_rfl) (by kernel_rfl) (by kernel_rfl) (by decide) (hval 1 27 v1 rfl rfl) h1
  obtain ⟨rw2, wf2, len2, rel2⟩ := open_rows (ρ := R) (e := 75) (ks := cellKs) (by kernel_rfl) (by kernel_rfl) (by kernel_rfl) (by decide) (hval 2 27 v2 rfl rfl) h2
  obtain ⟨w0w, w0h, g0, l0⟩ := isLawn_of w0
  obtain ⟨c1, fl1, cl1, cb1⟩ := cells_of wf1
  rw [fl1, ← cl1] at rel1; rw [← cl1] at len1
  obtain ⟨c2, fl2, cl2, cb2⟩ := cells_of wf2
  rw [fl2, ← cl2] at rel2; rw [← cl2] at len2
  have hc := contract_of (P := Try.prog) (ρ := R) (Γ := G) (F := 3) (f := 139) (ds := [.agg s0, .sl c1.length 2 (encC c1), .sl c2.length 2 (encC c2)])
    (vs := [.agg (encs s0).toArray, v1, v2]) mixed table rfl W ⟨trivial, fun i h => (h rfl).elim⟩ (Nat.zero_le _) (.cons (.agg _) (.cons rel1 (.cons rel2 (.nil)))) (law_LeastDelay l0 c1 c2 len1 cb1 len2 cb2)
  refine Go.Calls.mono hc fun e W' ⟨he, bel⟩ => ?_
  subst he
  exact ⟨_, rfl, _, _, _, [], _, [], hW', trodAll_mk1 (shut_bool Try.underlying4 _),
    (trodAll_cons_mk (Below.trod laidOut (by kernel_rfl) (of_decide_eq_true (by kernel_rfl)) h0 bel lt0) (trodAll_cons_mk (Below.trod laidOut (by kernel_rfl) (of_decide_eq_true (by kernel_rfl)) h1 bel lt1) (trodAll_cons_mk (Below.trod laidOut (by kernel_rfl) (of_decide_eq_true (by kernel_rfl)) h2 bel lt2) trodAll_mk0))), rfl, bel.frame _, fun h => by cases h⟩

theorem over : Rows.fnExactLeastDelayRow.holds Try.pinned (OpenSpec.ofChange Rows.fnExactLeastDelaySpec) :=
  OpenClaim.holds_of_wide 3 Try.f3 rfl rfl rfl rfl rfl rfl rfl ⟨rfl, rfl, rfl, rfl, rfl⟩ rfl rfl rfl rfl rfl (by kernel_rfl) Try.func3 (by kernel_rfl)
    (of_decide_eq_true (by kernel_rfl)) (by unfold Func.isWrapper; first | (rw [if_pos (by decide +kernel)]; kernel_rfl) | (rw [if_neg (by decide +kernel)]; exact ⟨rfl, rfl⟩))
    (fun os started H enc _ => lifted os started H enc)

theorem proved : Rows.FnExactLeastDelaySaid := over
end Go.Proofs.Ytaocbbdkiemhaaa
