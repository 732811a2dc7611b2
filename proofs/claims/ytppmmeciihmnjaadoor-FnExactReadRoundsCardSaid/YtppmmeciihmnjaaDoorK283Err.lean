/- Rounds are read from their text: the statement. -/
import Derived.Test.YtppmmeciihmnjaaDoorK283ReadRounds3
import Derived.Handed
import Derived.SizedLaws
import Derived.Stop.LaidErr
import Derived.Test.YtppmmeciihmnjaaDoorK283Known
set_option linter.unusedSimpArgs false
set_option linter.unusedVariables false
set_option maxHeartbeats 4000000
namespace Go.DM
open Go.IntWalk
theorem law_ReadRounds (s : List UInt8) : Gives G 283 [.d (.s (.str s))] (rb true) := by
  refine Gives.by rfl rfl (W.seq ?_)
  by_cases hs : s.length ≤ 1048576
  · have h1 := specRR_gives s hs
    have h2 := progRR_gives s hs
    by_cases g : GoodR s
    · rw [readRR, if_pos g] at h1 h2
      have h60 := g.1.2
      generalize rdA s = R at h1 h2 h60
      have hM : Gives G 298 [.ms R.length 2 (encO R), ai .i64 1] ⟨[.s (.int .i64 (1 + 2 * (R.length : Nat)))], [encO (marksR 1 R.length)]⟩ := markRoundS_gives R 1 h60 rfl
      have hml := marksR_len 1 R.length
      have hH : Gives G 299 [aro (marksR 1 R.length), ai .i64 1] ⟨[.s (.int .i64 (1 + 2 * (R.length : Nat)))], []⟩ := heldRoundS_gives' R.length 1 h60 rfl
      have hH2 : Gives G 299 [.d (.sl R.length 2 (encO (marksR 1 R.length))), ai .i64 1] ⟨[.s (.int .i64 (1 + 2 * (R.length : Nat)))], []⟩ := heldRoundS_gives R.length 1 h60 rfl
      repeat' first | ((with_reducible apply WR.c_os (f := 296) (fn := Code.f296)); exact rfl; exact rfl; exact rfl; (first | exact rfl | exact backs_no); (focus ((repeat' first | exact args_nil | apply args_d | (apply args_s; exact rfl; exact rfl; exact (by first | exact encO_length _ | exact (encO_length _).symm | (simp only [encO_length, List.length_set]; omega) | exact rfl)) | exact toD_d rfl | exact toD_slX rfl rfl (by first | exact encO_length _ | exact (encO_length _).symm | (simp only [encO_length, List.length_set]; omega) | exact rfl) | exact all_nil | apply all_cons | exact rfl); done)); exact h1; (first | exact rfl)) | ((with_reducible apply WR.c_os (f := 297) (fn := Code.f297)); exact rfl; exact rfl; exact rfl; (first | exact rfl | exact backs_no); (focus ((repeat' first | exact args_nil | apply args_d | (apply args_s; exact rfl; exact rfl; exact (by first | exact encO_length _ | exact (encO_length _).symm | (simp only [encO_length, List.length_set]; omega) | exact rfl)) | exact toD_d rfl | exact toD_slX rfl rfl (by first | exact encO_length _ | exact (encO_length _).symm | (simp only [encO_length, List.length_set]; omega) | exact rfl) | exact all_nil | apply all_cons | exact rfl); done)); exact h2; (first | exact rfl)) | ((with_reducible apply WR.c_ws (f := 298) (fn := Code.f298)); exact rfl; exact rfl; exact rfl; (focus ((repeat' first | exact args_nil | apply args_d | (apply args_s; exact rfl; exact rfl; exact (by first | exact encO_length _ | exact (encO_length _).symm | (simp only [encO_length, List.length_set]; omega) | exact rfl)) | exact toD_d rfl | exact toD_slX rfl rfl (by first | exact encO_length _ | exact (encO_length _).symm | (simp only [encO_length, List.length_set]; omega) | exact rfl) | exact all_nil | apply all_cons | exact rfl); done)); exact hM; (focus ((repeat' first | exact backs_no | (apply backs_s; exact rfl; exact rfl; exact (by first | exact encO_length _ | exact (encO_length _).symm | (simp only [encO_length, List.length_set]; omega) | exact rfl); exact (by first | exact encO_length _ | exact (encO_length _).symm | (simp only [encO_length, List.length_set]; omega) | exact rfl)) | exact rfl); done)); dsimp only [insertAll]) | ((with_reducible apply WR.c_s (f := 299) (fn := Code.f299)); exact rfl; exact rfl; exact rfl; (first | exact rfl | exact backs_no); (focus ((repeat' first | exact args_nil | apply args_d | (apply args_s; exact rfl; exact rfl; exact (by first | exact encO_length _ | exact (encO_length _).symm | (simp only [encO_length, List.length_set]; omega) | exact rfl)) | exact toD_d rfl | exact toD_slX rfl rfl (by first | exact encO_length _ | exact (encO_length _).symm | (simp only [encO_length, List.length_set]; omega) | exact rfl) | exact all_nil | apply all_cons | exact rfl); done)); exact hH2) | ((with_reducible apply WR.c_s (f := 225) (fn := Code.f225)); exact rfl; exact rfl; exact rfl; (first | exact rfl | exact backs_no); (focus ((repeat' first | exact args_nil | apply args_d | (apply args_s; exact rfl; exact rfl; exact (by first | exact encO_length _ | exact (encO_length _).symm | (simp only [encO_length, List.length_set]; omega) | exact rfl)) | exact toD_d rfl | exact toD_slX rfl rfl (by first | exact encO_length _ | exact (encO_length _).symm | (simp only [encO_length, List.length_set]; omega) | exact rfl) | exact all_nil | apply all_cons | exact rfl); done)); exact eqRoundS_gives _ (by omega)) | ((with_reducible apply WR.mv); exact rfl; exact rfl) | ((with_reducible apply WR.mvt); exact rfl; exact rfl) | ((with_reducible apply WR.ex); exact rfl; exact rfl) | ((with_reducible apply WR.neq); exact rfl; exact rfl; exact rfl) | ((with_reducible apply WR.nil)) | (with_reducible refine andThen_n ?_) | (with_reducible refine W.seq ?_) | (with_reducible refine W.region ?_) | (with_reducible refine W.skip ?_) | (with_reducible refine W.ret ?_) | ((with_reducible apply W.condF); exact rfl) | ((with_reducible apply Done.f); (intro hh hh2; exact (nomatch hh2)); (focus ((repeat' first | exact all_nil | apply all_cons | exact res_tmp rfl | exact rfl); done)); (focus ((repeat' first | exact all_nil | apply all_cons | exact retOf_s rfl | exact rfl); done)); exact rfl; (focus ((repeat' first | exact outs_nil | apply outs_d | exact rfl); done))) | (intro hb; try (exfalso; omega)) | ((with_reducible apply WR.lss); exact rfl; exact rfl; exact rfl) | ((with_reducible apply WR.un); exact rfl; exact rfl) | ((with_reducible apply WR.pk); exact rfl; exact rfl) | ((with_reducible apply WR.gtr); exact rfl; exact rfl; exact rfl) | ((with_reducible apply WR.le); exact rfl; exact rfl)
      all_goals rfl
    · rw [readRR, if_neg g] at h1 h2
      repeat' first | ((with_reducible apply WR.c_os (f := 296) (fn := Code.f296)); exact rfl; exact rfl; exact rfl; (first | exact rfl); (focus ((repeat' first | exact args_nil | apply args_d | exact toD_d rfl | exact toD_slX rfl rfl (by first | exact encO_length _ | exact rfl) | exact all_nil | apply all_cons | exact rfl); done)); exact h1; (first | exact rfl)) | ((with_reducible apply WR.c_ss (f := 297) (fn := Code.f297)); exact rfl; exact rfl; exact rfl; (first | exact rfl); (focus ((repeat' first | exact args_nil | apply args_d | exact toD_d rfl | exact toD_slX rfl rfl (by first | exact encO_length _ | exact rfl) | exact all_nil | apply all_cons | exact rfl); done)); exact h2) | ((with_reducible apply WR.c_s (f := 225) (fn := Code.f225)); exact rfl; exact rfl; exact rfl; (first | exact rfl); (focus ((repeat' first | exact args_nil | apply args_d | exact toD_d rfl | exact toD_slX rfl rfl (by first | exact encO_length _ | exact rfl) | exact all_nil | apply all_cons | exact rfl); done)); exact eqRoundS0_gives) | ((with_reducible apply WR.c_s (f := 298) (fn := Code.f298)); exact rfl; exact rfl; exact rfl; (first | exact rfl); (focus ((repeat' first | exact args_nil | apply args_d | exact toD_d rfl | exact toD_slX rfl rfl (by first | exact encO_length _ | exact rfl) | exact all_nil | apply all_cons | exact rfl); done)); exact markRoundS0_gives _) | ((with_reducible apply WR.c_s (f := 299) (fn := Code.f299)); exact rfl; exact rfl; exact rfl; (first | exact rfl); (focus ((repeat' first | exact args_nil | apply args_d | exact toD_d rfl | exact toD_slX rfl rfl (by first | exact encO_length _ | exact rfl) | exact all_nil | apply all_cons | exact rfl); done)); exact heldRoundS0_gives _) | ((with_reducible apply WR.mv); exact rfl; exact rfl) | ((with_reducible apply WR.mvt); exact rfl; exact rfl) | ((with_reducible apply WR.ex); exact rfl; exact rfl) | ((with_reducible apply WR.neq); exact rfl; exact rfl; exact rfl) | ((with_reducible apply WR.nil)) | (with_reducible refine andThen_n ?_) | (with_reducible refine W.seq ?_) | (with_reducible refine W.region ?_) | (with_reducible refine W.skip ?_) | (with_reducible refine W.ret ?_) | ((with_reducible apply W.condF); exact rfl) | ((with_reducible apply Done.f); (intro hh hh2; exact (nomatch hh2)); (focus ((repeat' first | exact all_nil | apply all_cons | exact res_tmp rfl | exact rfl); done)); (focus ((repeat' first | exact all_nil | apply all_cons | exact retOf_s rfl | exact rfl); done)); exact rfl; (focus ((repeat' first | exact outs_nil | apply outs_d | exact rfl); done))) | (intro hb; try (exfalso; omega)) | ((with_reducible apply WR.lss); exact rfl; exact rfl; exact rfl) | ((with_reducible apply WR.un); exact rfl; exact rfl) | ((with_reducible apply WR.pk); exact rfl; exact rfl) | ((with_reducible apply WR.gtr); exact rfl; exact rfl; exact rfl) | ((with_reducible apply WR.le); exact rfl; exact rfl)
      all_goals rfl
  · repeat' first | ((with_reducible apply WR.mv); exact rfl; exact rfl) | ((with_reducible apply WR.nil)) | (with_reducible refine andThen_n ?_) | (with_reducible refine andThen_r ?_) | (with_reducible refine W.seq ?_) | (with_reducible refine W.region ?_) | (with_reducible refine W.ret ?_) | ((with_reducible apply W.condT); exact rfl) | ((with_reducible apply Done.f); (intro hh hh2; exact (nomatch hh2)); (focus ((repeat' first | exact all_nil | apply all_cons | exact res_tmp rfl); done)); (focus ((repeat' first | exact all_nil | apply all_cons | exact retOf_s rfl); done)); exact rfl; (focus ((repeat' first | exact outs_nil | apply outs_d); done))) | (intro hb; try (exfalso; omega)) | ((with_reducible apply WR.gtr); exact rfl; exact rfl; exact rfl) | ((with_reducible apply WR.le); exact rfl; exact rfl)
    all_goals rfl
end Go.DM

/- A card's call: the world's shape and what is laid, both kept. -/
namespace Go.DM
variable {H : Type} {enc : TypeId × Value → H}
theorem returnsInHanded_of_change_both {a : Assume} {C : Checked} {os : Os} {f : FuncId} {fn : Func} {s : ChangeSpec} {conds : List PathCond} {apart fresh handsOn again : Bool} {X : World → Array Value → Prop}
    (hX : ∀ (w w' : World) (args : Array Value), w.heap = w'.heap → X w args → X w' args)
    (own : ownKnob C.prog.godebug = none) (started : os.Started) (noInit : C.prog.inits.idxOf? f = none) (hfn : C.prog.funcs[f]? = some fn)
    (witness : ∃ (w : World) (tape : Tape) (i : Input), w.os = os ∧ (w.forCall tape i).Shaped C.prog ∧ i.vars = [] ∧ Input.okWide C.prog (w.forCall tape i) .any w.heap.size f i ∧
      ((s.pre enc C.prog fn conds apart (w.forCall tape i).memory i.args ∧ X (w.forCall tape i).memory i.args) ∧ sizedMet enc C.prog fn (OpenSpec.ofChange s) apart (w.forCall tape i).memory i.args) ∧ a.holds C.prog (lone (Frame.enter C.prog f i.args .normal) [] (w.forCall tape i)))
    (contract : ∀ (W : World) (base : Nat) (args : Array Value) (ds gs : List (DataW H)) (before : List MemPlace),
      (∀ (j : Nat) t v, fn.params[j]? = some t → args[j]? = some v → Value.okWide C.prog W .any base t v) →
      DataW.Whole enc C.prog fn.params.toList s.vars apart W args.toList ds gs before →
      conds.all (PathCond.test C.prog ⟨fn.params.toList, ds, s.plain.varTypes C.prog, gs⟩) = true →
      (DataW.weightsEach C.prog (fn.params.toList ++ s.plain.varTypes C.prog) (ds ++ gs)).all (· ≤ reachBytes) = true → X W args → W.ShapedOpen C.prog →
      a.holds C.prog (lone (Frame.enter C.prog f args .normal) [] W) →
      Go.Calls C.prog f args W fun e W' => ∃ v, e = .returned v ∧ s.post enc C.prog fn apart fresh handsOn again W args v W') :
    ReturnsInHanded a C os f .any (fun w args => (s.pre enc C.prog fn conds apart w args ∧ X w args) ∧ sizedMet enc C.prog fn (OpenSpec.ofChange s) apart w args) (s.post enc C.prog fn apart fresh handsOn again) := by
  refine returnsInHanded_of_calls own started noInit witness ?_
  intro w tape i _ hsh _ hok hpre hholds
  obtain ⟨_, _, _, fn', hfn', _, _, _, _, hval⟩ := hok
  have e : fn' = fn := Option.some.inj (hfn'.symm.trans hfn)
  subst e
  obtain ⟨⟨⟨ds, gs, before, hw, hc⟩, hx⟩, hz⟩ := hpre
  have hw' := DataW.Whole.of_heap (w' := w.forCall tape i) (by rfl) hw
  refine (contract (w.forCall tape i) w.heap.size i.args ds gs before hval hw' hc (hz.weights hw) (hX _ _ _ (by rfl) hx) hsh hholds).mono fun e W' ⟨v, he, hp⟩ => ?_
  subst he
  exact ChangeSpec.post_blind hp
end Go.DM

/- A variable of the library's that holds an error: what the list of what is laid says. -/
namespace Go.DM
theorem err_of_laid {P : Program} {n : String} {g : Nat} {tp : TypeId} {text : List UInt8} {W : World} (hg : P.globalNamed n = some g)
    (h : ∃ (a : Addr) (s : ByteArray), W.var? P n = some #[.iface tp (.pointer (some a))] ∧ W.cell? a = some (.string s) ∧ s.data.toList = text ∧ s.size ≤ maxLen) : errAt g W := by
  obtain ⟨a, s, hv, _⟩ := h
  exact ⟨_, World.var?_cell hg hv 0, .inr ⟨_, _, rfl⟩⟩
end Go.DM
