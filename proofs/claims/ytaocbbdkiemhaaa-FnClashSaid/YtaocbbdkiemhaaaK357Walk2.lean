/- Codes of two walks, on both sides; the first clash of two walks; a cell repeated. -/
import Derived.Test.YtaocbbdkiemhaaaK357Walk
set_option linter.unusedSimpArgs false
set_option linter.unusedVariables false
set_option maxHeartbeats 4000000
namespace Go.DM
set_option linter.unusedSectionVars false
variable [Tok]
open Go.IntWalk
variable {w h : Int} {g : Nat → Int} {cs : List S}

/-! Functions of a walk that came as data. -/
def HoldsW (Γ : Nat → Option Fn) (x : D) (P : List Cel → Prop) [DecidablePred P] (dom : List Cel → Prop) : Prop :=
  ∃ f fn pre post, x = .clo f pre post ∧ Γ f = some fn ∧ fn.muts = [] ∧ ∀ c, dom c → Gives Γ f (pre.map .d ++ [asl c] ++ post.map .d) (rb (decide (P c)))
section
variable {Γ : Nat → Option Fn} {dsts : Nat → Option Nat} {ops : List Oper} {Q : St → Prop} {σ : St} {gd : Option (Nat × Bool)} {l1 l2 l3 l4 : List Nat}
theorem WR.vw {x : D} {P : List Cel → Prop} [DecidablePred P] {dom : List Cel → Prop} (hx : HoldsW Γ x P dom) {a b : Opd} {c : List Cel} {e : Nat} (hw : wanted dsts σ.env gd = some true) (ha : ev σ.env a = .a (.d x)) (hb : ev σ.env b = .a (.d (wD c))) (hd : dom c)
    (k1 : P c → WR Γ dsts ops Q (set (some e) (.a (.d (.s (.bool true)))) σ)) (k2 : ¬ P c → WR Γ dsts ops Q (set (some e) (.a (.d (.s (.bool false)))) σ)) : WR Γ dsts (⟨some e, .callv a [b], gd, l1, l2, l3, l4⟩ :: ops) Q σ := by
  obtain ⟨f, fn, pre, post, rfl, h1, h2, h3⟩ := hx
  have h0 : args σ [] [] (post.map fun x => V.a (.d x)) = some (post.map .d) := by
    have := args_pre σ post [] [] args_nil
    simpa using this
  have h4 := args_d (σ := σ) (ids := []) (v := .a (.d (wD c))) (toD_d rfl) h0
  have h5 := args_pre σ pre _ _ h4
  refine WR.call (d := e) (v := .a (.d (.s (.bool (decide (P c)))))) (ps := []) (ns := []) (vs := pre.map (fun x => V.a (.d x)) ++ [.a (.d (wD c))] ++ post.map (fun x => V.a (.d x))) (as := pre.map .d ++ [asl c] ++ post.map .d) hw rfl (by simp [callee, ha, hb]) h1 ?_ ?_ (h3 c hd) ?_ rfl rfl rfl ?_
  · rw [h2]
    cases h : (pre.map (fun x => V.a (.d x)) ++ _ : List V) <;> rfl
  · rw [h2]
    have hm : ∀ vs : List V, mutIds [] vs = [] := fun vs => by cases vs <;> rfl
    rw [hm]
    simpa [asl, wD] using h5
  · rw [h2]; exact backs_no
  · simp only [List.append_nil, List.map_nil, insertAll, kill_nil]
    by_cases h : P c
    · simp only [h, decide_true]; exact k1 h
    · simp only [h, decide_false]; exact k2 h
end
theorem indexW_gives {x : D} {P : List Cel → Prop} [DecidablePred P] {dom : List Cel → Prop} (hx : HoldsW G x P dom) (a b : List Cel) (hda : dom a) (hdb : dom b) :
    Gives G 189 [aws a b, .d x] (ri .i64 (if P a then 0 else if P b then 1 else -1)) := by
  refine Gives.by rfl rfl (W.seq ?_)
  repeat' first | ((with_reducible apply WR.vw hx); exact rfl; exact rfl; exact rfl; first | exact hda | exact hdb) | (with_reducible refine W.loop ?_) | (intro hb; exfalso; simp only [List.length_cons, List.length_nil] at hb; omega) | ((with_reducible apply WR.mv); exact rfl; exact rfl) | ((with_reducible apply WR.nil)) | (with_reducible refine andThen_n ?_) | (with_reducible refine andThen_x ?_) | (with_reducible refine andThen_r ?_) | (with_reducible refine inB_n ?_) | (with_reducible refine inB_r ?_) | (with_reducible refine inB_x ?_) | (with_reducible refine W.seq ?_) | (with_reducible refine W.region ?_) | (with_reducible refine W.skip ?_) | (with_reducible refine W.ret ?_) | (with_reducible refine W.exit ?_) | (with_reducible refine W.block ?_) | ((with_reducible apply W.condT); exact rfl) | ((with_reducible apply W.condF); exact rfl) | ((with_reducible apply Done.f); (intro hh hh2; exact (nomatch hh2)); (focus ((repeat' first | exact all_nil | apply all_cons | exact res_tmp rfl); done)); (focus ((repeat' first | exact all_nil | apply all_cons | exact retOf_s rfl); done)); exact rfl; (focus ((repeat' first | exact outs_nil | apply outs_d); done))) | (intro hb; try (exfalso; omega)) | ((with_reducible apply WR.lss); exact rfl; exact rfl; exact rfl) | ((with_reducible apply WR.ad); exact rfl; exact rfl; exact rfl; (first | exact i64_in _ (by omega))) | ((with_reducible apply WR.lx); exact rfl; exact rfl) | ((with_reducible apply WR.ix); exact rfl; exact rfl) | ((with_reducible apply WR.le); exact rfl; exact rfl)
  · rw [if_pos (by assumption)]; rfl
  · rw [if_neg (by assumption), if_pos (by assumption)]; rfl
  · rw [if_neg (by assumption), if_neg (by assumption)]; rfl
theorem containsW_gives {x : D} {P : List Cel → Prop} [DecidablePred P] {dom : List Cel → Prop} (hx : HoldsW G x P dom) (a b : List Cel) (hda : dom a) (hdb : dom b) :
    Gives G 181 [aws a b, .d x] (rb (decide (P a ∨ P b))) := by
  have hi := indexW_gives hx a b hda hdb
  refine Gives.by rfl rfl (W.seq ?_)
  by_cases h1 : P a
  · rw [if_pos h1] at hi
    repeat' first | ((with_reducible apply WR.c_s (f := 189) (fn := Code.f189)); exact rfl; exact rfl; exact rfl; (first | exact rfl); (focus ((repeat' first | exact args_nil | apply args_d | exact toD_d rfl | exact all_nil | apply all_cons | exact rfl); done)); exact hi) | ((with_reducible apply WR.mv); exact rfl; exact rfl) | ((with_reducible apply WR.nil)) | (with_reducible refine andThen_n ?_) | (with_reducible refine W.seq ?_) | (with_reducible refine W.region ?_) | (with_reducible refine W.ret ?_) | ((with_reducible apply Done.f); (intro hh hh2; exact (nomatch hh2)); (focus ((repeat' first | exact all_nil | apply all_cons | exact res_tmp rfl | exact rfl); done)); (focus ((repeat' first | exact all_nil | apply all_cons | exact retOf_s rfl | exact rfl); done)); exact rfl; (focus ((repeat' first | exact outs_nil | apply outs_d | exact rfl); done))) | (intro hb; try (exfalso; omega)) | ((with_reducible apply WR.geq); exact rfl; exact rfl; exact rfl)
    exact rb_t (.inl h1)
  · rw [if_neg h1] at hi
    by_cases h2 : P b
    · rw [if_pos h2] at hi
      repeat' first | ((with_reducible apply WR.c_s (f := 189) (fn := Code.f189)); exact rfl; exact rfl; exact rfl; (first | exact rfl); (focus ((repeat' first | exact args_nil | apply args_d | exact toD_d rfl | exact all_nil | apply all_cons | exact rfl); done)); exact hi) | ((with_reducible apply WR.mv); exact rfl; exact rfl) | ((with_reducible apply WR.nil)) | (with_reducible refine andThen_n ?_) | (with_reducible refine W.seq ?_) | (with_reducible refine W.region ?_) | (with_reducible refine W.ret ?_) | ((with_reducible apply Done.f); (intro hh hh2; exact (nomatch hh2)); (focus ((repeat' first | exact all_nil | apply all_cons | exact res_tmp rfl | exact rfl); done)); (focus ((repeat' first | exact all_nil | apply all_cons | exact retOf_s rfl | exact rfl); done)); exact rfl; (focus ((repeat' first | exact outs_nil | apply outs_d | exact rfl); done))) | (intro hb; try (exfalso; omega)) | ((with_reducible apply WR.geq); exact rfl; exact rfl; exact rfl)
      exact rb_t (.inr h2)
    · rw [if_neg h2] at hi
      repeat' first | ((with_reducible apply WR.c_s (f := 189) (fn := Code.f189)); exact rfl; exact rfl; exact rfl; (first | exact rfl); (focus ((repeat' first | exact args_nil | apply args_d | exact toD_d rfl | exact all_nil | apply all_cons | exact rfl); done)); exact hi) | ((with_reducible apply WR.mv); exact rfl; exact rfl) | ((with_reducible apply WR.nil)) | (with_reducible refine andThen_n ?_) | (with_reducible refine W.seq ?_) | (with_reducible refine W.region ?_) | (with_reducible refine W.ret ?_) | ((with_reducible apply Done.f); (intro hh hh2; exact (nomatch hh2)); (focus ((repeat' first | exact all_nil | apply all_cons | exact res_tmp rfl | exact rfl); done)); (focus ((repeat' first | exact all_nil | apply all_cons | exact retOf_s rfl | exact rfl); done)); exact rfl; (focus ((repeat' first | exact outs_nil | apply outs_d | exact rfl); done))) | (intro hb; try (exfalso; omega)) | ((with_reducible apply WR.geq); exact rfl; exact rfl; exact rfl)
      exact rb_f (fun h => h.elim h1 h2)
theorem long_gives (a : List Cel) (ha : a.length ≤ 3000000) : Gives G 182 [asl a] (rb (decide (201 < a.length))) := by
  refine Gives.by rfl rfl (W.seq ?_)
  repeat' first | ((with_reducible apply WR.mv); exact rfl; exact rfl) | ((with_reducible apply WR.nil)) | (with_reducible refine andThen_n ?_) | (with_reducible refine W.seq ?_) | (with_reducible refine W.region ?_) | (with_reducible refine W.ret ?_) | ((with_reducible apply Done.f); (intro hh hh2; exact (nomatch hh2)); (focus ((repeat' first | exact all_nil | apply all_cons | exact res_tmp rfl); done)); (focus ((repeat' first | exact all_nil | apply all_cons | exact retOf_s rfl); done)); exact rfl; (focus ((repeat' first | exact outs_nil | apply outs_d); done))) | (intro hb; try (exfalso; omega)) | ((with_reducible apply WR.gtr); exact rfl; exact rfl; exact rfl) | ((with_reducible apply WR.le); exact rfl; exact rfl)
  · exact rb_t (by omega)
  · exact rb_f (by omega)
theorem wrong_gives (l : IsLawn w h g cs) (hs : w ≤ 10 ∧ h ≤ 10) (a : List Cel) (ha : a.length ≤ 100000) : Gives G 183 [asl a, ar cs] (rb (decide (¬ WalkOk w h g a))) := by
  refine Gives.by rfl rfl (W.seq ?_)
  repeat' first | ((with_reducible apply WR.c_p (f := 184) (fn := Code.f184)); exact rfl; exact rfl; exact rfl; (first | exact rfl); (focus ((repeat' first | exact args_nil | apply args_d | exact toD_d rfl | exact all_nil | apply all_cons | exact rfl); done)); exact isWalk_gives (by assumption) hs a ha) | ((with_reducible apply WR.mv); exact rfl; exact rfl) | ((with_reducible apply WR.nil)) | (with_reducible refine andThen_n ?_) | (with_reducible refine W.seq ?_) | (with_reducible refine W.region ?_) | (with_reducible refine W.ret ?_) | ((with_reducible apply Done.f); (intro hh hh2; exact (nomatch hh2)); (focus ((repeat' first | exact all_nil | apply all_cons | exact res_tmp rfl | exact rfl); done)); (focus ((repeat' first | exact all_nil | apply all_cons | exact retOf_s rfl | exact rfl); done)); exact rfl; (focus ((repeat' first | exact outs_nil | apply outs_d | exact rfl); done))) | (intro hb; try (exfalso; omega)) | ((with_reducible apply WR.ldr); exact rfl; exact rfl; (first | exact loadC_all (IsLawn.len (by assumption)))) | ((with_reducible apply WR.un); exact rfl; exact rfl)
  · exact rb_f (fun h => h (by assumption))
  · exact rb_t (by assumption)
theorem holds_long : HoldsW G (.clo 182 [] []) (fun a => 201 < a.length) (fun a => a.length ≤ 3000000) :=
  ⟨182, Code.f182, [], [], rfl, rfl, rfl, fun a ha => long_gives a ha⟩
theorem holds_wrong (l : IsLawn w h g cs) (hs : w ≤ 10 ∧ h ≤ 10) : HoldsW G (.clo 183 [] [.ref cs]) (fun a => ¬ WalkOk w h g a) (fun a => a.length ≤ 100000) :=
  ⟨183, Code.f183, [], [.ref cs], rfl, rfl, rfl, fun a ha => wrong_gives l hs a ha⟩
/-- The code of two walks. -/
def walksC (w h : Int) (g : Nat → Int) (a b : List Cel) : Int := if LawnOk w h g then (if 201 < a.length ∨ 201 < b.length then 3 else if WalkOk w h g a ∧ WalkOk w h g b then 0 else 4) else 1
theorem walkCode_gives (l : IsLawn w h g cs) (a b : List Cel) (la : a.length ≤ 3000000) (lb : b.length ≤ 3000000) : Gives G 170 [aa cs, aws a b] (ri .i64 (walksC w h g a b)) := by
  unfold walksC
  refine Gives.by rfl rfl (W.seq ?_)
  repeat' first | ((with_reducible apply WR.c_p (f := 181) (fn := Code.f181)); exact rfl; exact rfl; exact rfl; (first | exact rfl); (focus ((repeat' first | exact args_nil | apply args_d | exact toD_d rfl | exact toD_ptr rfl rfl | (apply toD_clo; exact rfl) | exact all_nil | apply all_cons | exact rfl); done)); exact containsW_gives holds_long a b la lb) | ((with_reducible apply WR.c_p (f := 30) (fn := Code.f30)); exact rfl; exact rfl; exact rfl; (first | exact rfl); (focus ((repeat' first | exact args_nil | apply args_d | exact toD_d rfl | exact toD_ptr rfl rfl | (apply toD_clo; exact rfl) | exact all_nil | apply all_cons | exact rfl); done)); exact validLawn_gives (by assumption)) | ((with_reducible apply WR.mv); exact rfl; exact rfl) | ((with_reducible apply WR.nil)) | (with_reducible refine andThen_n ?_) | (with_reducible refine andThen_r ?_) | (with_reducible refine inB_r ?_) | (with_reducible refine W.seq ?_) | (with_reducible refine W.region ?_) | (with_reducible refine W.ret ?_) | (with_reducible refine W.block ?_) | ((with_reducible apply W.condT); exact rfl) | ((with_reducible apply W.condF); exact rfl) | ((with_reducible apply Done.f); (intro hh hh2; exact (nomatch hh2)); (focus ((repeat' first | exact all_nil | apply all_cons | exact res_tmp rfl | exact rfl); done)); (focus ((repeat' first | exact all_nil | apply all_cons | exact retOf_s rfl | exact rfl); done)); exact rfl; (focus ((repeat' first | exact outs_nil | apply outs_d | exact rfl); done))) | (intro hb; try (exfalso; omega)) | ((with_reducible apply WR.bx); exact rfl; exact rfl; exact (by first | exact IsLawn.len (by assumption) | exact rfl); (first | exact rfl)) | ((with_reducible apply WR.ld); exact rfl; exact rfl; exact rfl; (first | exact loadC_all (IsLawn.len (by assumption)))) | ((with_reducible apply WR.mf); exact rfl; exact rfl) | ((with_reducible apply WR.un); exact rfl; exact rfl)
  · rw [if_pos (by assumption), if_pos (by assumption)]; rfl
  · have hl := (by assumption : LawnOk w h g)
    have hab := (by assumption : ¬ (201 < a.length ∨ 201 < b.length))
    repeat' first | ((with_reducible apply WR.c_p (f := 181) (fn := Code.f181)); exact rfl; exact rfl; exact rfl; (first | exact rfl); (focus ((repeat' first | exact args_nil | apply args_d | exact toD_d rfl | exact toD_ptr rfl rfl | (apply toD_clo; exact rfl) | exact all_nil | apply all_cons | exact rfl); done)); exact containsW_gives (holds_wrong l ⟨hl.1.2, hl.2.1.2⟩) a b (by omega) (by omega)) | ((with_reducible apply WR.mv); exact rfl; exact rfl) | ((with_reducible apply WR.nil)) | (with_reducible refine andThen_n ?_) | (with_reducible refine andThen_r ?_) | (with_reducible refine inB_n ?_) | (with_reducible refine inB_r ?_) | (with_reducible refine W.seq ?_) | (with_reducible refine W.region ?_) | (with_reducible refine W.skip ?_) | (with_reducible refine W.ret ?_) | ((with_reducible apply W.condT); exact rfl) | ((with_reducible apply W.condF); exact rfl) | ((with_reducible apply Done.f); (intro hh hh2; exact (nomatch hh2)); (focus ((repeat' first | exact all_nil | apply all_cons | exact res_tmp rfl | exact rfl); done)); (focus ((repeat' first | exact all_nil | apply all_cons | exact retOf_s rfl | exact rfl); done)); exact rfl; (focus ((repeat' first | exact outs_nil | apply outs_d | exact rfl); done))) | (intro hb; try (exfalso; omega))
    · rw [if_pos hl, if_neg hab, if_neg (fun q => (by assumption : ¬ WalkOk w h g a ∨ ¬ WalkOk w h g b).elim (fun k => k q.1) (fun k => k q.2))]; rfl
    · have hn := (by assumption : ¬ (¬ WalkOk w h g a ∨ ¬ WalkOk w h g b))
      rw [if_pos hl, if_neg hab, if_pos ⟨Classical.byContradiction fun k => hn (.inl k), Classical.byContradiction fun k => hn (.inr k)⟩]; rfl
  · rw [if_neg (by assumption)]; rfl
theorem l04Several_gives (l : IsLawn w h g cs) (a b : List Cel) (la : a.length ≤ 3000000) (lb : b.length ≤ 3000000) (ba : ∀ i, i < a.length → -128 ≤ (gC a i).1 ∧ (gC a i).1 ≤ 127 ∧ -128 ≤ (gC a i).2 ∧ (gC a i).2 ≤ 127) (bb : ∀ i, i < b.length → -128 ≤ (gC b i).1 ∧ (gC b i).1 ≤ 127 ∧ -128 ≤ (gC b i).2 ∧ (gC b i).2 ≤ 127) :
    Gives G 168 [ar cs, aws a b] (ri .i64 (walksC w h g a b)) := by
  unfold walksC
  by_cases hl : LawnOk w h g
  · by_cases h1 : 201 < a.length
    · rw [if_pos hl, if_pos (.inl h1)]
      refine Gives.by rfl rfl (W.seq ?_)
      repeat' first | (with_reducible refine W.loop ?_) | (intro hb; exfalso; simp only [List.length_cons, List.length_nil] at hb; omega) | ((with_reducible apply WR.c_p (f := 28) (fn := Code.f28)); exact rfl; exact rfl; exact rfl; (first | exact rfl); (focus ((repeat' first | exact args_nil | apply args_d | exact toD_d rfl | exact all_nil | apply all_cons | exact rfl); done)); exact l01Ok_gives (by assumption)) | ((with_reducible apply WR.mv); exact rfl; exact rfl) | ((with_reducible apply WR.le); exact rfl; exact rfl) | ((with_reducible apply WR.nil)) | (with_reducible refine andThen_n ?_) | (with_reducible refine andThen_r ?_) | (with_reducible refine inB_r ?_) | (with_reducible refine W.seq ?_) | (with_reducible refine W.region ?_) | (with_reducible refine W.skip ?_) | (with_reducible refine W.ret ?_) | (with_reducible refine W.block ?_) | ((with_reducible apply W.condT); exact rfl) | ((with_reducible apply W.condF); exact rfl) | ((with_reducible apply Done.f); (intro hh hh2; exact (nomatch hh2)); (focus ((repeat' first | exact all_nil | apply all_cons | exact res_tmp rfl | exact rfl); done)); (focus ((repeat' first | exact all_nil | apply all_cons | exact retOf_s rfl | exact rfl); done)); exact rfl; (focus ((repeat' first | exact outs_nil | apply outs_d | exact rfl); done))) | (intro hb; try (exfalso; omega)) | ((with_reducible apply WR.lss); exact rfl; exact rfl; exact rfl) | ((with_reducible apply WR.gtr); exact rfl; exact rfl; exact rfl) | ((with_reducible apply WR.lx); exact rfl; exact rfl) | ((with_reducible apply WR.ix); exact rfl; exact rfl) | ((with_reducible apply WR.un); exact rfl; exact rfl)
      all_goals first | rfl | contradiction | (exfalso; omega)
    · by_cases h2 : 201 < b.length
      · rw [if_pos hl, if_pos (.inr h2)]
        refine Gives.by rfl rfl (W.seq ?_)
        repeat' first | (with_reducible refine W.loop ?_) | (intro hb; exfalso; simp only [List.length_cons, List.length_nil] at hb; omega) | ((with_reducible apply WR.c_p (f := 28) (fn := Code.f28)); exact rfl; exact rfl; exact rfl; (first | exact rfl); (focus ((repeat' first | exact args_nil | apply args_d | exact toD_d rfl | exact all_nil | apply all_cons | exact rfl); done)); exact l01Ok_gives (by assumption)) | ((with_reducible apply WR.mv); exact rfl; exact rfl) | ((with_reducible apply WR.le); exact rfl; exact rfl) | ((with_reducible apply WR.nil)) | (with_reducible refine andThen_n ?_) | (with_reducible refine andThen_r ?_) | (with_reducible refine inB_n ?_) | (with_reducible refine inB_r ?_) | (with_reducible refine W.seq ?_) | (with_reducible refine W.region ?_) | (with_reducible refine W.skip ?_) | (with_reducible refine W.ret ?_) | (with_reducible refine W.block ?_) | ((with_reducible apply W.condT); exact rfl) | ((with_reducible apply W.condF); exact rfl) | ((with_reducible apply Done.f); (intro hh hh2; exact (nomatch hh2)); (focus ((repeat' first | exact all_nil | apply all_cons | exact res_tmp rfl | exact rfl); done)); (focus ((repeat' first | exact all_nil | apply all_cons | exact retOf_s rfl | exact rfl); done)); exact rfl; (focus ((repeat' first | exact outs_nil | apply outs_d | exact rfl); done))) | (intro hb; try (exfalso; omega)) | ((with_reducible apply WR.lss); exact rfl; exact rfl; exact rfl) | ((with_reducible apply WR.gtr); exact rfl; exact rfl; exact rfl) | ((with_reducible apply WR.ad); exact rfl; exact rfl; exact rfl; (first | exact i64_in _ (by omega))) | ((with_reducible apply WR.lx); exact rfl; exact rfl) | ((with_reducible apply WR.ix); exact rfl; exact rfl) | ((with_reducible apply WR.un); exact rfl; exact rfl)
        all_goals first | rfl | contradiction | (exfalso; omega)
      · have hs : w ≤ 10 ∧ h ≤ 10 := ⟨hl.1.2, hl.2.1.2⟩
        rw [if_pos hl, if_neg (by omega)]
        refine Gives.by rfl rfl (W.seq ?_)
        repeat' first | ((with_reducible apply WR.c_p (f := 178) (fn := Code.f178)); exact rfl; exact rfl; exact rfl; (first | exact rfl); (focus ((repeat' first | exact args_nil | apply args_d | exact toD_d rfl | exact all_nil | apply all_cons | exact rfl); done)); exact l04Right_gives (by assumption) hs a (by omega) ba) | ((with_reducible apply WR.c_p (f := 178) (fn := Code.f178)); exact rfl; exact rfl; exact rfl; (first | exact rfl); (focus ((repeat' first | exact args_nil | apply args_d | exact toD_d rfl | exact all_nil | apply all_cons | exact rfl); done)); exact l04Right_gives (by assumption) hs b (by omega) bb) | (with_reducible refine W.loop ?_) | (intro hb; exfalso; simp only [List.length_cons, List.length_nil] at hb; omega) | ((with_reducible apply WR.c_p (f := 28) (fn := Code.f28)); exact rfl; exact rfl; exact rfl; (first | exact rfl); (focus ((repeat' first | exact args_nil | apply args_d | exact toD_d rfl | exact all_nil | apply all_cons | exact rfl); done)); exact l01Ok_gives (by assumption)) | ((with_reducible apply WR.mv); exact rfl; exact rfl) | ((with_reducible apply WR.le); exact rfl; exact rfl) | ((with_reducible apply WR.nil)) | (with_reducible refine andThen_n ?_) | (with_reducible refine andThen_x ?_) | (with_reducible refine andThen_r ?_) | (with_reducible refine inB_n ?_) | (with_reducible refine inB_r ?_) | (with_reducible refine inB_x ?_) | (with_reducible refine W.seq ?_) | (with_reducible refine W.region ?_) | (with_reducible refine W.skip ?_) | (with_reducible refine W.ret ?_) | (with_reducible refine W.exit ?_) | (with_reducible refine W.block ?_) | ((with_reducible apply W.condT); exact rfl) | ((with_reducible apply W.condF); exact rfl) | ((with_reducible apply Done.f); (intro hh hh2; exact (nomatch hh2)); (focus ((repeat' first | exact all_nil | apply all_cons | exact res_tmp rfl | exact rfl); done)); (focus ((repeat' first | exact all_nil | apply all_cons | exact retOf_s rfl | exact rfl); done)); exact rfl; (focus ((repeat' first | exact outs_nil | apply outs_d | exact rfl); done))) | (intro hb; try (exfalso; omega)) | ((with_reducible apply WR.lss); exact rfl; exact rfl; exact rfl) | ((with_reducible apply WR.gtr); exact rfl; exact rfl; exact rfl) | ((with_reducible apply WR.ad); exact rfl; exact rfl; exact rfl; (first | exact i64_in _ (by omega))) | ((with_reducible apply WR.lx); exact rfl; exact rfl) | ((with_reducible apply WR.ix); exact rfl; exact rfl) | ((with_reducible apply WR.un); exact rfl; exact rfl)
        · rw [if_pos ⟨by assumption, by assumption⟩]; rfl
        · rw [if_neg (fun h => absurd h.2 (by assumption))]; rfl
        · rw [if_neg (fun h => absurd h.1 (by assumption))]; rfl
        · contradiction
  · rw [if_neg hl]
    refine Gives.by rfl rfl (W.seq ?_)
    repeat' first | ((with_reducible apply WR.c_p (f := 28) (fn := Code.f28)); exact rfl; exact rfl; exact rfl; (first | exact rfl); (focus ((repeat' first | exact args_nil | apply args_d | exact toD_d rfl | exact all_nil | apply all_cons | exact rfl); done)); exact l01Ok_gives (by assumption)) | ((with_reducible apply WR.mv); exact rfl; exact rfl) | ((with_reducible apply WR.nil)) | (with_reducible refine andThen_n ?_) | (with_reducible refine andThen_r ?_) | (with_reducible refine W.seq ?_) | (with_reducible refine W.region ?_) | (with_reducible refine W.skip ?_) | (with_reducible refine W.ret ?_) | (with_reducible refine W.block ?_) | ((with_reducible apply W.condT); exact rfl) | ((with_reducible apply W.condF); exact rfl) | ((with_reducible apply Done.f); (intro hh hh2; exact (nomatch hh2)); (focus ((repeat' first | exact all_nil | apply all_cons | exact res_tmp rfl | exact rfl); done)); (focus ((repeat' first | exact all_nil | apply all_cons | exact retOf_s rfl | exact rfl); done)); exact rfl; (focus ((repeat' first | exact outs_nil | apply outs_d | exact rfl); done))) | (intro hb; try (exfalso; omega)) | ((with_reducible apply WR.un); exact rfl; exact rfl)
    all_goals first | rfl | contradiction
theorem longest_gives (a b : List Cel) (la : a.length ≤ 3000000) (lb : b.length ≤ 3000000) : Gives G 179 [aws a b] (ri .i64 (max a.length b.length : Nat)) := by
  refine Gives.by rfl rfl (W.seq ?_)
  repeat' first | (with_reducible refine W.loop ?_) | (intro hb; exfalso; simp only [List.length_cons, List.length_nil] at hb; omega) | ((with_reducible apply WR.mv); exact rfl; exact rfl) | ((with_reducible apply WR.le); exact rfl; exact rfl) | ((with_reducible apply WR.nil)) | (with_reducible refine andThen_n ?_) | (with_reducible refine andThen_x ?_) | (with_reducible refine inB_n ?_) | (with_reducible refine inB_x ?_) | (with_reducible refine W.seq ?_) | (with_reducible refine W.region ?_) | (with_reducible refine W.skip ?_) | (with_reducible refine W.ret ?_) | (with_reducible refine W.exit ?_) | (with_reducible refine W.block ?_) | ((with_reducible apply W.condT); exact rfl) | ((with_reducible apply W.condF); exact rfl) | ((with_reducible apply Done.f); (intro hh hh2; exact (nomatch hh2)); (focus ((repeat' first | exact all_nil | apply all_cons | exact res_tmp rfl); done)); (focus ((repeat' first | exact all_nil | apply all_cons | exact retOf_s rfl); done)); exact rfl; (focus ((repeat' first | exact outs_nil | apply outs_d); done))) | (intro hb; try (exfalso; omega)) | ((with_reducible apply WR.lx); exact rfl; exact rfl) | ((with_reducible apply WR.ix); exact rfl; exact rfl) | ((with_reducible apply WR.lss); exact rfl; exact rfl; exact rfl) | ((with_reducible apply WR.gtr); exact rfl; exact rfl; exact rfl) | ((with_reducible apply WR.ad); exact rfl; exact rfl; exact rfl; (first | exact i64_in _ (by omega)))
  all_goals exact ri_congr (by omega)
/-- The first time from t on at which two robots clash, before m. -/
def clashFrom (a b : List Cel) (m : Nat) : Nat → Nat → Option Nat
  | 0, _ => none
  | f + 1, t => if t < m then (if Clash a b t then some t else clashFrom a b m f (t + 1)) else none
def clashAt (a b : List Cel) (m t : Nat) : Option Nat := clashFrom a b m (m - t + 1) t
theorem clashAt_step (a b : List Cel) (m t : Nat) : clashAt a b m t = if t < m then (if Clash a b t then some t else clashAt a b m (t + 1)) else none := by
  by_cases h : t < m
  · unfold clashAt
    rw [show m - t + 1 = (m - (t + 1) + 1) + 1 by omega, clashFrom]
  · unfold clashAt
    rw [if_neg h, clashFrom, if_neg h]
def clashR (x : Option Nat) : List Ret := match x with | some t => [.s (.int .i64 t), .s (.int .i64 0), .s (.int .i64 1), .s (.bool true)] | none => [.s (.int .i64 0), .s (.int .i64 0), .s (.int .i64 0), .s (.bool false)]
theorem l04Clash_gives (a b : List Cel) (ha : 1 ≤ a.length ∧ a.length ≤ 100000) (hb : 1 ≤ b.length ∧ b.length ≤ 100000) : Gives G 169 [aws a b] ⟨clashR (clashAt a b (max a.length b.length) 0), []⟩ := by
  have h3 : a.length ≤ 3000000 := by omega
  have h4 : b.length ≤ 3000000 := by omega
  refine Gives.by rfl rfl (W.seq ?_)
  repeat' first | ((with_reducible apply WR.c_s (f := 179) (fn := Code.f179)); exact rfl; exact rfl; exact rfl; (first | exact rfl); (focus ((repeat' first | exact args_nil | apply args_d | exact toD_d rfl | exact rfl); done)); exact longest_gives _ _ (by assumption) (by assumption)) | ((with_reducible apply WR.mv); exact rfl; exact rfl) | ((with_reducible apply WR.nil)) | (with_reducible refine andThen_n ?_) | (with_reducible refine W.seq ?_) | (with_reducible refine W.region ?_) | (with_reducible refine W.block ?_)
  generalize hm : max a.length b.length = m
  have hm' : m ≤ 100000 := by omega
  (refine (?_ : W _ (Code.loop _) _ _))
  (refine W.loopM [0, 6] [] [] (fun t : (Nat) => (m - t : Nat)) (fun t : (Nat) => (t ≤ m ∧ clashAt a b m 0 = clashAt a b m t : Prop)) (fun t : (Nat) => [(7, .a (.d (.s (.int .i64 (t : Nat)))))]) (fun t : (Nat) => []) 0 (⟨by omega, rfl⟩) ⟨rfl, trivial⟩ trivial trivial ?_)
  rintro t σ hP hN; dsimp only [setL, putL] at hP ⊢
  obtain ⟨ht, he⟩ := hP
  repeat' first | (with_reducible refine W.loop ?_) | (intro hb; exfalso; simp only [List.length_cons, List.length_nil] at hb; omega) | ((with_reducible apply WH.c_p (f := 180) (fn := Code.f180)); exact rfl; exact rfl; exact rfl; (first | exact rfl); (focus ((repeat' first | exact args_nil | apply args_d | exact toD_d rfl | exact all_nil | apply all_cons | exact rfl); done)); exact meet_gives _ _ _ (by omega) (by omega) (by omega)) | ((with_reducible apply WR.mv); exact rfl; exact rfl) | ((with_reducible apply WH.mv); exact rfl; exact rfl; exact rfl) | ((with_reducible apply WR.ad); exact rfl; exact rfl; exact rfl; (first | exact i64_in _ (by omega))) | ((with_reducible apply WR.lss); exact rfl; exact rfl; exact rfl) | ((with_reducible apply WR.nil)) | (with_reducible refine andThen_n ?_) | (with_reducible refine andThen_x ?_) | (with_reducible refine andThen_r ?_) | (with_reducible refine inB_n ?_) | (with_reducible refine inB_r ?_) | (with_reducible refine inB_x ?_) | (with_reducible refine W.seq ?_) | (with_reducible refine W.region ?_) | (with_reducible refine W.skip ?_) | (with_reducible refine W.ret ?_) | (with_reducible refine W.exit ?_) | (with_reducible refine W.block ?_) | ((with_reducible apply W.condT); exact rfl) | ((with_reducible apply W.condF); exact rfl) | ((with_reducible apply Done.f); (intro hh hh2; exact (nomatch hh2)); (focus ((repeat' first | exact all_nil | apply all_cons | exact res_tmp rfl | exact rfl); done)); (focus ((repeat' first | exact all_nil | apply all_cons | exact retOf_s rfl | exact rfl); done)); exact rfl; (focus ((repeat' first | exact outs_nil | apply outs_d | exact rfl); done))) | ((with_reducible apply WH.nil)) | (with_reducible refine W.draw ?_) | (intro hb; try (exfalso; omega)) | ((with_reducible apply WR.le); exact rfl; exact rfl) | ((with_reducible apply WH.lx); exact rfl; exact rfl; exact rfl) | ((with_reducible apply WH.ix); exact rfl; exact rfl; exact rfl)
  · rw [he, clashAt_step, if_pos (by omega), if_pos (by assumption)]; rfl
  · have hs := clashAt_step a b m t
    rw [if_pos (by omega), if_neg (by assumption)] at hs
    (refine W.nxt (t + 1) (by first | omega | (dsimp only; omega)) ?_ ⟨rfl, trivial⟩ trivial ⟨rfl, rfl, trivial⟩ trivial trivial); (try dsimp only)
    exact ⟨by omega, by rw [he, hs]⟩
  · rw [he, clashAt_step, if_neg (by omega)]; rfl
/-- What the first clash is. -/
theorem clashFrom_none {a b : List Cel} {m : Nat} : ∀ {f t : Nat}, m - t + 1 ≤ f → (clashFrom a b m f t = none ↔ ∀ s, t ≤ s → s < m → ¬ Clash a b s)
  | 0, t, hf => by omega
  | f + 1, t, hf => by
    unfold clashFrom
    by_cases h : t < m
    · rw [if_pos h]
      by_cases hc : Clash a b t
      · rw [if_pos hc]
        exact ⟨fun e => (by cases e), fun k => absurd hc (k t (Nat.le_refl _) h)⟩
      · rw [if_neg hc, clashFrom_none (by omega)]
        exact ⟨fun k s h1 h2 => by
          by_cases e : s = t
          · rw [e]; exact hc
          · exact k s (by omega) h2, fun k s h1 h2 => k s (by omega) h2⟩
    · rw [if_neg h]
      exact ⟨fun _ s h1 h2 => by omega, fun _ => rfl⟩
theorem clashAt_none {a b : List Cel} {m : Nat} : clashAt a b m 0 = none ↔ ∀ s, s < m → ¬ Clash a b s := by
  unfold clashAt
  rw [clashFrom_none (by omega)]
  exact ⟨fun k s hs => k s (Nat.zero_le _) hs, fun k s _ hs => k s hs⟩
end Go.DM
