/- Rounds: the law. -/
import Derived.Test.YtimkdadlmolnaaaGreatDoorK402Rounds4
import Derived.Handed
import Derived.SizedLaws
import Derived.Stop.LaidErr
import Derived.Test.YtimkdadlmolnaaaGreatDoorK402Known
set_option linter.unusedSectionVars false
set_option linter.unusedSimpArgs false
set_option linter.unusedVariables false
set_option maxHeartbeats 4000000
namespace Go.DM
variable [Tok]
open Go.IntWalk
theorem law_Rounds (u0 : (Tok.dat 0).length ≤ 9223372036854775807) (u1 : (Tok.dat 1).length ≤ 9223372036854775807) : Gives G 402 [.d (.s (.tok 0)), .d (.s (.tok 1))] (rb true) := by
  have hbig := a2LongB_gives 0 1 u0 u1
  by_cases b0 : 3000 < (Tok.dat 0).length ∨ 3000 < (Tok.dat 1).length
  · rw [decide_eq_true b0] at hbig
    refine Gives.by rfl rfl (W.seq ?_)
    repeat' first | ((with_reducible apply WR.c_s (f := 381) (fn := Code.f381)); exact rfl; exact rfl; exact rfl; (exact rfl); (focus ((repeat' first | exact args_nil | apply args_d | exact toD_d rfl | exact all_nil | apply all_cons | exact rfl); done)); exact hbig) | ((with_reducible apply WR.mv); exact rfl; exact rfl) | ((with_reducible apply WR.nil)) | (with_reducible refine andThen_n ?_) | (with_reducible refine andThen_r ?_) | (with_reducible refine W.seq ?_) | (with_reducible refine W.region ?_) | (with_reducible refine W.ret ?_) | ((with_reducible apply W.condT); exact rfl) | ((with_reducible apply Done.f); (intro hh hh2; exact (nomatch hh2)); (focus ((repeat' first | exact all_nil | apply all_cons | exact res_tmp rfl | exact rfl); done)); (focus ((repeat' first | exact all_nil | apply all_cons | exact retOf_s rfl | exact rfl); done)); exact rfl; (focus ((repeat' first | exact outs_nil | apply outs_d | exact rfl); done)))
    rfl
  rw [decide_eq_false b0] at hbig
  obtain ⟨w, h, g, hw, hh, hk, lawn⟩ := a2Lawn_gives 0 (by omega)
  have l : IsLawn w h g (lwn w h g) := lwn_is hw hh hk
  have hL : LawnOk w h g := lwn_ok hw hh hk
  generalize lwn w h g = cs at lawn l
  obtain ⟨q, hq, weeds⟩ := a2Weeds_gives l hL 1 (by omega)
  obtain ⟨rs, rl, rin, rnds⟩ := a2Rounds_gives l hL hh.2 0 (by omega)
  have v0 := atV_b 1 0 (n := 3) (by omega)
  have v1 := atV_b 1 1 (n := 3) (by omega)
  have v2 := atV_b 1 2 (n := 12) (by omega)
  have e1 : ((atV 1 1 3).toNat : Int) = atV 1 1 3 := by omega
  have a1 := a2At_gives 1 1 3 (by omega) (by omega) (by omega)
  rw [← e1] at a1
  exact rounds_main (n0 := atV 1 0 3) (bound := atV 1 2 12) (k := (atV 1 1 3).toNat) (oth := fun j => atV 0 j h) ⟨l, hL, hw, hh, hq, rl, rin, by omega, by omega, by omega, fun j => atV_b 0 j hh.1, hbig, lawn, weeds, rnds, a2At_gives 1 0 3 (by omega) (by omega) (by omega), a1, a2At_gives 1 2 12 (by omega) (by omega) (by omega), fun j hj => a2At_gives 0 j h (by omega) (by omega) (by omega)⟩
end Go.DM

/- A card's call: the world's shape and what is laid, both kept. -/
namespace Go.DM
variable {H : Type} {enc : TypeId × Value → H}
theorem returnsInHanded_of_change_both {a : Assume} {C : Checked} {os : Os} {f : FuncId} {fn : Func} {s : ChangeSpec} {conds : List PathCond} {apart fresh handsOn again : Bool} {X : World → Array Value → Prop}
    (hX : ∀ (w w' : World) (args : Array Value), w.heap = w'.heap → X w args → X w' args)
    (own : ownKnob C.prog.godebug = none) (started : os.Started) (noInit : C.prog.inits.idxOf? f = none) (hfn : C.prog.funcs[f]? = some fn)
    (witness : ∃ (w : World) (tape : Tape) (i : Input), w.os = os ∧ (w.forCall tape i).Shaped C.prog ∧ i.vars = [] ∧ Input.okWide C.prog (w.forCall tape i) .any w.heap.size f i ∧
      ((s.pre enc C.prog fn conds apart (w.forCall tape i).memory i.args ∧ X (w.forCall tape i).memory i.args) ∧ sizedMet enc C.prog fn (OpenSpec.ofChange s) apart (w.forCall tape i).memory i.args) ∧ a.holds C.prog (lone (Frame.enter C.prog f i.args .normal) [] (w.forCall tape i)))
    (contract : ∀ (W : World) (base : Nat) (args : Array Value) (ds gs : List (DataW H)) (before : List MemPlace),
      (∀ (j : Nat) t v, fn.params[j]? = some t → args[j]? = some v → Value.okWide C.prog W .any base t v) →
      DataW.Whole enc C.prog fn.params.toList s.vars apart W args.toList ds gs before →
      conds.all (PathCond.test C.prog ⟨fn.params.toList, ds, s.plain.varTypes C.prog, gs⟩) = true →
      (DataW.weightsEach C.prog (fn.params.toList ++ s.plain.varTypes C.prog) (ds ++ gs)).all (· ≤ reachBytes) = true → X W args → W.ShapedOpen C.prog →
      a.holds C.prog (lone (Frame.enter C.prog f args .normal) [] W) →
      Go.Calls C.prog f args W fun e W' => ∃ v, e = .returned v ∧ s.post enc C.prog fn apart fresh handsOn again W args v W') :
    ReturnsInHanded a C os f .any (fun w args => (s.pre enc C.prog fn conds apart w args ∧ X w args) ∧ sizedMet enc C.prog fn (OpenSpec.ofChange s) apart w args) (s.post enc C.prog fn apart fresh handsOn again) := by
  refine returnsInHanded_of_calls own started noInit witness ?_
  intro w tape i _ hsh _ hok hpre hholds
  obtain ⟨_, _, _, fn', hfn', _, _, _, _, hval⟩ := hok
  have e : fn' = fn := Option.some.inj (hfn'.symm.trans hfn)
  subst e
  obtain ⟨⟨⟨ds, gs, before, hw, hc⟩, hx⟩, hz⟩ := hpre
  have hw' := DataW.Whole.of_heap (w' := w.forCall tape i) (by rfl) hw
  refine (contract (w.forCall tape i) w.heap.size i.args ds gs before hval hw' hc (hz.weights hw) (hX _ _ _ (by rfl) hx) hsh hholds).mono fun e W' ⟨v, he, hp⟩ => ?_
  subst he
  exact ChangeSpec.post_blind hp
end Go.DM

/- A variable of the library's that holds an error: what the list of what is laid says. -/
namespace Go.DM
variable [Tok]
theorem err_of_laid {P : Program} {n : String} {g : Nat} {tp : TypeId} {text : List UInt8} {W : World} (hg : P.globalNamed n = some g)
    (h : ∃ (a : Addr) (s : ByteArray), W.var? P n = some #[.iface tp (.pointer (some a))] ∧ W.cell? a = some (.string s) ∧ s.data.toList = text ∧ s.size ≤ maxLen) : errAt g W := by
  obtain ⟨a, s, hv, _⟩ := h
  exact ⟨_, World.var?_cell hg hv 0, .inr ⟨_, _, rfl⟩⟩
end Go.DM
