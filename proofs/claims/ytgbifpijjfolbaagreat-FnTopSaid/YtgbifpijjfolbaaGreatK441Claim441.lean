/- The program's Top gives what the reference's gives, for all arguments: the statement FnTop; no condition. -/
import Derived.Test.YtgbifpijjfolbaaGreatK441Tab
import Derived.Test.YtgbifpijjfolbaaGreatK441Y
import Derived.Test.YtgbifpijjfolbaaGreatK441Beside
import Derived.Test.YtgbifpijjfolbaaGreatK441Fin5
import Derived.Test.YtgbifpijjfolbaaGreatRows
set_option linter.all false
namespace Go.Proofs.YtgbifpijjfolbaaGreat
open Go.ChangeShapes Go.WideShapes Go.ChangeAt Go.RowKit Go.DM
theorem own : ownKnob Tryz.prog.godebug = none := by kernel_rfl
theorem laidOut : laidOutB Tryz.prog = true := by kernel_rfl
theorem mixed : Tryz.prog.follows .mixedOrders = true := by kernel_rfl
set_option maxRecDepth 100000 in
theorem lifted (os : Os) (started : os.Started) (H : Type) (enc : TypeId × Value → H) :
    ReturnsInHanded {} Tryz.checked os 3 .any (Rows.fnTopSpec.pre6 enc Tryz.prog Tryz.f3 Rows.fnTopRow.domain false) (Rows.fnTopSpec.post enc Tryz.prog Tryz.f3 false true false false) := by
  refine returnsInHanded_of_change (C := Tryz.checked) own started (by kernel_rfl) Tryz.func3
    (ChangeSpec.witness6 (enc := enc) (C := Tryz.checked) false ⟨#[], #[.slice none 0 0, .slice none 0 0], []⟩ 8 (by kernel_rfl) (by kernel_rfl) (by kernel_rfl) (by kernel_rfl)) ?_
  intro W base args ds gs before hval0 hW hcnd _
  have hval : ∀ (j : Nat) t v, Tryz.f3.params[j]? = some t → args[j]? = some v → Value.okWide Tryz.prog W .any base t v := hval0
  have hW' := hW
  obtain ⟨p, q, hA0, hV, rfl, hfz, hnd⟩ := hW
  have hA : DataW.TrodAll enc Tryz.prog W 0 (fun _ => true) true Tryz.f3.params.toList args.toList ds p := hA0
  rw [Tryz.params3] at hA hval
  obtain ⟨v0, vs0, d0, ds0, p0, q0, hargs, rfl, rfl, h0, r0⟩ := trodAll_cons hA
  obtain ⟨v1, vs1, d1, ds1, p1, q1, rfl, rfl, rfl, h1, r1⟩ := trodAll_cons r0
  obtain ⟨rfl, rfl, rfl⟩ := trodAll_nil r1
  obtain rfl : args = #[v0, v1] := by cases args; simp_all
  obtain ⟨rfl, rfl⟩ := trodVars_none hV
  have lt0 : ∀ x ∈ p0, x.block < W.heap.size := by obtain ⟨m, hm⟩ := h0; exact DataW.trod_lt m _ _ _ hm
  have lt1 : ∀ x ∈ p1, x.block < W.heap.size := by obtain ⟨m, hm⟩ := h1; exact DataW.trod_lt m _ _ _ hm
  obtain ⟨ad0, by0, cp0, rfl, bl0, at0⟩ := (letI : DM.Tok := DM.Tok.none; DM.open_bytes (P := Tryz.prog) (e := 5) (by kernel_rfl) (by kernel_rfl) (by kernel_rfl) (hval 0 22 v0 rfl rfl) h0)
  obtain ⟨ad1, by1, cp1, rfl, bl1, at1⟩ := (letI : DM.Tok := DM.Tok.none; DM.open_bytes (P := Tryz.prog) (e := 5) (by kernel_rfl) (by kernel_rfl) (by kernel_rfl) (hval 1 22 v1 rfl rfl) h1)
  letI : DM.Tok := tok2 ad0 ad1 cp0 cp1 by0 by1
  have hTok : TokAt W.heap.size W := fun i hi => match i with
    | 0 => (at0 hi).elim fun b hb => hb.elim fun o ho => ⟨b, o, ho.1, ho.2.1, by rw [encs_u8s]; exact ho.2.2⟩
    | 1 => (at1 hi).elim fun b hb => hb.elim fun o ho => ⟨b, o, ho.1, ho.2.1, by rw [encs_u8s]; exact ho.2.2⟩
    | _ + 2 => (hi rfl).elim
  have hc := contract_of (P := Tryz.prog) (ρ := R) (Γ := G) (F := 3) (f := 441) (ds := [.s (.tok 0), .s (.tok 1)])
    (vs := [DM.enc (.tok 0), DM.enc (.tok 1)]) mixed (table.up (n := W.heap.size) (Nat.zero_le _)) rfl W ⟨trivial, hTok⟩ (Nat.le_refl _) (.cons (.s (.tok 0)) (.cons (.s (.tok 1)) (.nil))) (law_Top bl0 bl1)
  refine Go.Calls.mono hc fun e W' ⟨he, bel⟩ => ?_
  subst he
  exact ⟨_, rfl, _, _, _, [], _, [], hW', trodAll_mk1 (shut_bool Tryz.underlying4 _),
    (trodAll_cons_mk (Below.trod laidOut (by kernel_rfl) (of_decide_eq_true (by kernel_rfl)) h0 bel lt0) (trodAll_cons_mk (Below.trod laidOut (by kernel_rfl) (of_decide_eq_true (by kernel_rfl)) h1 bel lt1) trodAll_mk0)), rfl, bel.frame _, fun h => by cases h⟩
theorem over : Rows.fnTopRow.holds Tryz.pinned (OpenSpec.ofChange Rows.fnTopSpec) :=
  OpenClaim.holds_of_wide 3 Tryz.f3 rfl rfl rfl rfl rfl rfl rfl ⟨rfl, rfl, rfl, rfl, rfl⟩ rfl rfl rfl rfl rfl (by kernel_rfl) Tryz.func3 (by kernel_rfl)
    (of_decide_eq_true (by kernel_rfl)) (by unfold Func.isWrapper; first | (rw [if_pos (by decide +kernel)]; kernel_rfl) | (rw [if_neg (by decide +kernel)]; exact ⟨rfl, rfl⟩))
    (fun os started H enc _ => lifted os started H enc)
theorem proved : Rows.FnTopSaid := over
end Go.Proofs.YtgbifpijjfolbaaGreat
