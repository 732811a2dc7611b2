/- The cell at which a mole is most often: both sides, the statement. -/
import Derived.Test.YtaocbbdkiemhaaaK356Most
import Derived.Test.YtaocbbdkiemhaaaK356NightsS
import Derived.Test.YtaocbbdkiemhaaaK356All
set_option linter.unusedSimpArgs false
set_option linter.unusedVariables false
set_option maxHeartbeats 4000000
namespace Go.DM
set_option linter.unusedSectionVars false
variable [Tok]
open Go.IntWalk
variable {w h : Int} {g : Nat → Int} {cs : List S} {q : Nat → Int} {qs : List S}
theorem path_in9 (hs : w ≤ 10 ∧ h ≤ 10) {m : Mole} (k : m.Ok) : ∀ n, ∀ c ∈ m.path w h g n, In9 c
  | 0, c, hc => by
    simp only [Mole.path, List.mem_singleton] at hc
    subst hc; exact k.a
  | n + 1, c, hc => by
    simp only [Mole.path, List.mem_append, List.mem_singleton] at hc
    rcases hc with hc | hc
    · exact path_in9 hs k n c hc
    · subst hc; exact (k.after hs (n + 1)).a
theorem ldC1 {l : List Cel} {k : Nat} (hk : k + 1 < l.length) : loadC 2 true (encC l) (0 + 1 * 2 + k * 2) = some (.a (.d (.agg [.int .i8 (gC l (k + 1)).1, .int .i8 (gC l (k + 1)).2]))) := by
  rw [show 0 + 1 * 2 + k * 2 = 0 + (k + 1) * 2 by omega]; exact ldC hk
theorem drop_take {l : List Cel} {i : Nat} (h : i + 1 < l.length) : (l.drop 1).take (i + 1) = (l.drop 1).take i ++ [gC l (i + 1)] := by
  rw [List.take_add_one, List.getElem?_drop, Nat.add_comm 1 i, gC_get h]; rfl
theorem mf_b (L : List Cel) (c : Cel) : 0 ≤ cntM (MF L) c ∧ cntM (MF L) c ≤ L.length := by
  rw [MF_cnt _ L rfl]; exact cntL_b L c
def mvRes (w h : Int) (g q : Nat → Int) (qs : List S) (a : Cel) (n : Int) : Res :=
  if molesCode w h g q a n = 0 then (if n = 0 then ⟨[.agg [.int .i8 0, .int .i8 0], .s (.int .i64 0), .s (.int .i64 6)], []⟩ else
    ⟨[.agg [.int .i8 (mostF (cntL (((Mole.mk q qs a a).path w h g n.toNat).drop 1)) (allC w h)).1.1, .int .i8 (mostF (cntL (((Mole.mk q qs a a).path w h g n.toNat).drop 1)) (allC w h)).1.2],
      .s (.int .i64 (mostF (cntL (((Mole.mk q qs a a).path w h g n.toNat).drop 1)) (allC w h)).2), .s (.int .i64 0)], []⟩)
  else ⟨[.agg [.int .i8 0, .int .i8 0], .s (.int .i64 0), .s (.int .i64 (molesCode w h g q a n))], []⟩
theorem most_map (L A : List Cel) : mostF (cntM (MF L)) A = mostF (cntL L) A := mostF_congr fun c _ => MF_cnt _ L rfl c
theorem mostP_gives (l : IsLawn w h g cs) (v : IsLev q qs) (a : Cel) (n : Int) : Gives G 199 [aa cs, aa qs, ac a.1 a.2, ai .i64 n] (mvRes w h g q qs a n) := by
  have hcode : belowCode (LevOk w h g q) ((∀ c ∈ [a], Has w h c.1 c.2) ∧ 0 ≤ n ∧ n ≤ 60) (∀ c ∈ [a], Is w h g 0 c.1 c.2) = molesCode w h g q a n :=
    belowCode_congr Iff.rfl ⟨fun h => ⟨h.2, h.1 a (by simp)⟩, fun h => ⟨by simpa using h.2, h.1⟩⟩ (by simp)
  have hmc := moleCode_gives l v n [a] (by simp)
  rw [hcode] at hmc
  by_cases hc : molesCode w h g q a n = 0
  · obtain ⟨hs, hn, ha, k0⟩ := moles_ok v hc
    have hL : LawnOk w h g := (belowCode_zero.1 hc).1.1
    rw [hc] at hmc
    by_cases h0 : n = 0
    · rw [mvRes, if_pos hc, if_pos h0]
      refine Gives.by rfl rfl (W.seq ?_)
      repeat' first | ((with_reducible apply WR.c_s (f := 25) (fn := Code.f25)); exact rfl; exact rfl; exact rfl; (first | exact rfl); (focus ((repeat' first | exact args_nil | apply args_d | exact toD_d rfl | exact toD_slC rfl rfl (by first | exact rfl) | exact all_nil | apply all_cons | exact rfl); done)); exact hmc) | ((with_reducible apply WR.mv); exact rfl; exact rfl) | ((with_reducible apply WR.ld); exact rfl; exact rfl; exact rfl; (first | exact ld2 | exact loadC_all (IsLawn.len (by assumption)) | exact loadC_all (IsLev.len (by assumption)))) | ((with_reducible apply WR.st); exact rfl; exact rfl; exact rfl; exact st2) | ((with_reducible apply WR.al); exact rfl; (first | exact rfl)) | ((with_reducible apply WR.bx); exact rfl; exact rfl; exact (by first | exact IsLev.len (by assumption) | exact IsLawn.len (by assumption) | exact rfl); (first | exact rfl)) | ((with_reducible apply WR.nil)) | (with_reducible refine andThen_n ?_) | (with_reducible refine andThen_r ?_) | (with_reducible refine W.seq ?_) | (with_reducible refine W.region ?_) | (with_reducible refine W.ret ?_) | ((with_reducible apply W.condT); exact rfl) | ((with_reducible apply Done.f); (intro hh hh2; exact (nomatch hh2)); (focus ((repeat' first | exact all_nil | apply all_cons | exact res_tmp rfl | exact res_cell rfl rfl (by first | exact IsLev.len (by assumption) | exact IsLawn.len (by assumption) | exact rfl) | exact rfl); done)); (focus ((repeat' first | exact all_nil | apply all_cons | exact retOf_s rfl | exact retOf_a rfl | exact rfl); done)); exact rfl; (focus ((repeat' first | exact outs_nil | apply outs_d | exact rfl); done))) | (intro hb; try (exfalso; omega)) | ((with_reducible apply WR.eql); exact rfl; exact rfl; exact rfl) | ((with_reducible apply WR.neq); exact rfl; exact rfl; exact rfl) | ((with_reducible apply WR.bs1); exact rfl; exact rfl; (first | exact rfl)) | ((with_reducible apply WR.pk); exact rfl; exact rfl) | ((with_reducible apply WR.bu); exact rfl; exact rfl)
      all_goals first
        | (exfalso; omega)
        | rfl
    · have hng := nights_gives l hs v a ha n.toNat (by omega)
      rw [show ((n.toNat : Nat) : Int) = n by omega] at hng
      have hpl := (Mole.mk q qs a a).path_length (w := w) (h := h) (g := g) n.toNat
      have hz := hL.1; have hz2 := hL.2.1
      rw [mvRes, if_pos hc, if_neg h0]
      have hv := (k0.after (w := w) (h := h) (g := g) hs n.toNat).v
      generalize (Mole.mk q qs a a).path w h g n.toNat = pth at hng hpl ⊢
      generalize (Mole.mk q qs a a).after w h g n.toNat = m at hng hv
      have hmo := mostOf_gives l (by omega) (MF (pth.drop 1))
      rw [most_map] at hmo
      generalize mostF (cntL (pth.drop 1)) (allC w h) = b at hmo ⊢
      refine Gives.by rfl rfl (W.seq ?_)
      repeat' first | ((with_reducible apply WR.c_s (f := 25) (fn := Code.f25)); exact rfl; exact rfl; exact rfl; (first | exact rfl); (focus ((repeat' first | exact args_nil | apply args_d | exact toD_d rfl | exact toD_slC rfl rfl (by first | exact rfl) | exact rfl); done)); exact hmc) | ((with_reducible apply WR.c_ao (f := 26) (fn := Code.f26)); exact rfl; exact rfl; exact rfl; (first | exact rfl); (focus ((repeat' first | exact args_nil | apply args_d | exact toD_d rfl | exact toD_slC rfl rfl (by first | exact rfl) | exact rfl); done)); exact hng; (first | exact rfl)) | ((with_reducible apply WR.mkm); exact rfl; exact rfl) | ((with_reducible apply WR.mv); exact rfl; exact rfl) | ((with_reducible apply WR.mvt); exact rfl; exact rfl) | ((with_reducible apply WR.ld); exact rfl; exact rfl; exact rfl; (first | exact ld2 | exact loadC_all (IsLawn.len (by assumption)) | exact loadC_all (IsLev.len (by assumption)))) | ((with_reducible apply WR.st); exact rfl; exact rfl; exact rfl; exact storeAll (by first | exact List.length_replicate .. | exact IsLev.len (by assumption) | exact IsLawn.len (by assumption) | exact rfl) (by first | exact List.length_replicate .. | exact IsLev.len (by assumption) | exact IsLawn.len (by assumption) | exact rfl)) | ((with_reducible apply WR.ex); exact rfl; exact rfl) | ((with_reducible apply WR.al); exact rfl; (first | exact rfl)) | ((with_reducible apply WR.bx); exact rfl; exact rfl; exact (by first | exact List.length_replicate .. | exact IsLev.len (by assumption) | exact IsLawn.len (by assumption) | exact rfl); (first | exact rfl)) | ((with_reducible apply WR.nil)) | (with_reducible refine andThen_n ?_) | (with_reducible refine W.seq ?_) | (with_reducible refine W.region ?_) | (with_reducible refine W.skip ?_) | (with_reducible refine W.block ?_) | ((with_reducible apply W.condF); exact rfl) | (intro hb; try (exfalso; omega)) | ((with_reducible apply WR.eql); exact rfl; exact rfl; exact rfl) | ((with_reducible apply WR.neq); exact rfl; exact rfl; exact rfl) | ((with_reducible apply WR.s2); exact rfl; exact rfl; (first | exact rfl); (first | exact rfl); exact ⟨by omega, by omega⟩) | ((with_reducible apply WR.bs1); exact rfl; exact rfl; (first | exact rfl)) | ((with_reducible apply WR.pk); exact rfl; exact rfl) | ((with_reducible apply WR.le); exact rfl; exact rfl)
      all_goals try (exfalso; omega)
      (refine (?_ : W _ (Code.loop _) _ _))
      (refine W.loopM [4, 8, 12, 45, 46] [4, 8, 2041] [16, 17] (fun zz : (Nat) × (List (Cel × Int)) => match zz with | (i, M) => (pth.length - i : Nat)) (fun zz : (Nat) × (List (Cel × Int)) => match zz with | (i, M) => (i ≤ pth.length - 1 ∧ M = MF ((pth.drop 1).take i) : Prop)) (fun zz : (Nat) × (List (Cel × Int)) => match zz with | (i, M) => [(47, .a (.d (.s (.int .i64 (i : Nat)))))]) (fun zz : (Nat) × (List (Cel × Int)) => match zz with | (i, M) => [(35, .map KC (encM M))]) (0, []) (⟨by omega, rfl⟩) ⟨rfl, trivial⟩ ⟨rfl, trivial⟩ ⟨(by (repeat' first | exact rfl | assumption | (with_reducible apply noPar_set) | ((with_reducible apply noPar_puto); exact rfl) | (with_reducible apply noPar_put) | (with_reducible apply noPar_putv) | (with_reducible apply noPar_putm) | (with_reducible apply noPar_kill) | ((with_reducible apply noPar_mix); exact rfl) | ((with_reducible apply noPar_mixT); exact rfl)); done), (by (repeat' first | exact rfl | assumption | (with_reducible apply noPar_set) | ((with_reducible apply noPar_puto); exact rfl) | (with_reducible apply noPar_put) | (with_reducible apply noPar_putv) | (with_reducible apply noPar_putm) | (with_reducible apply noPar_kill) | ((with_reducible apply noPar_mix); exact rfl) | ((with_reducible apply noPar_mixT); exact rfl)); done), trivial⟩ ?_)
      rintro ⟨i, M⟩ σ hP hN; dsimp only [setL, putL] at hP ⊢; obtain ⟨n16, hN⟩ := hN; obtain ⟨n17, hN⟩ := hN
      obtain ⟨hi, hM⟩ := hP
      by_cases hil : i < pth.length - 1
      · have hb0 := mf_b ((pth.drop 1).take i) (gC pth (i + 1))
        rw [← hM, List.length_take] at hb0
        have hb1 : 0 ≤ cntM M ((gC pth (i + 1)).1, (gC pth (i + 1)).2) ∧ cntM M ((gC pth (i + 1)).1, (gC pth (i + 1)).2) ≤ 100 := by
          show 0 ≤ cntM M (gC pth (i + 1)) ∧ cntM M (gC pth (i + 1)) ≤ 100
          omega
        repeat' first | ((with_reducible apply WR.ld); exact rfl; exact rfl; exact rfl; exact ldC1 (by omega)) | ((with_reducible apply WH.mget); exact rfl; exact rfl; exact rfl; exact rfl) | ((with_reducible apply WH.ment); exact rfl; exact rfl; exact rfl; exact rfl; exact rfl) | ((with_reducible apply WH.mest); exact rfl; exact rfl; exact rfl; exact rfl; exact rfl; exact (entM_at _ _).1; exact rfl) | ((with_reducible apply WR.mv); exact rfl; exact rfl) | ((with_reducible apply WR.st); exact rfl; exact rfl; exact rfl; exact st2) | ((with_reducible apply WR.al); exact rfl; (first | assumption)) | ((with_reducible apply WR.nil)) | (with_reducible refine andThen_n ?_) | (with_reducible refine inB_n ?_) | (with_reducible refine W.seq ?_) | (with_reducible refine W.region ?_) | (with_reducible refine W.skip ?_) | (with_reducible refine W.block ?_) | ((with_reducible apply W.condT); exact rfl) | ((with_reducible apply WH.nil)) | (with_reducible refine W.draw ?_) | (intro hb; try (exfalso; omega)) | ((with_reducible apply WR.lss); exact rfl; exact rfl; exact rfl) | ((with_reducible apply WR.ad); exact rfl; exact rfl; exact rfl; (first | exact i64_in _ (by omega) | assumption)) | ((with_reducible apply WR.isn); exact rfl; exact rfl; exact rfl; omega) | ((with_reducible apply WH.mv); exact rfl; exact rfl; exact rfl) | ((with_reducible apply WH.ad); exact rfl; exact rfl; exact rfl; (first | exact i64_in _ (by omega) | assumption)) | ((with_reducible apply WH.ld); exact rfl; exact rfl; exact rfl; (first | exact ld2); exact rfl) | ((with_reducible apply WH.ex); exact rfl; exact rfl; exact rfl)
        (refine W.nxt ((i + 1, bumpM M (gC pth (i + 1)))) (by first | omega | (dsimp only; omega)) ?_ ⟨rfl, trivial⟩ ⟨rfl, trivial⟩ ⟨rfl, rfl, rfl, rfl, rfl, trivial⟩ ⟨rfl, rfl, rfl, trivial⟩ ⟨(by (repeat' first | exact rfl | assumption | (with_reducible apply noPar_set) | ((with_reducible apply noPar_puto); exact rfl) | (with_reducible apply noPar_put) | (with_reducible apply noPar_putv) | (with_reducible apply noPar_putm) | (with_reducible apply noPar_kill) | ((with_reducible apply noPar_mix); exact rfl) | ((with_reducible apply noPar_mixT); exact rfl)); done), (by (repeat' first | exact rfl | assumption | (with_reducible apply noPar_set) | ((with_reducible apply noPar_puto); exact rfl) | (with_reducible apply noPar_put) | (with_reducible apply noPar_putv) | (with_reducible apply noPar_putm) | (with_reducible apply noPar_kill) | ((with_reducible apply noPar_mix); exact rfl) | ((with_reducible apply noPar_mixT); exact rfl)); done), trivial⟩); (try dsimp only)
        exact ⟨by omega, by rw [hM, drop_take (by omega), MF_snoc]⟩
      · obtain rfl : i = pth.length - 1 := by omega
        rw [List.take_of_length_le (by simp)] at hM
        rw [← hM] at hmo
        repeat' first | ((with_reducible apply WR.c_as (f := 205) (fn := Code.f205)); exact rfl; exact rfl; exact rfl; (first | exact rfl); (focus ((repeat' first | exact args_nil | apply args_d | exact toD_d rfl | exact all_nil | apply all_cons | exact rfl); done)); exact hmo) | ((with_reducible apply WR.mv); exact rfl; exact rfl) | ((with_reducible apply WR.mvt); exact rfl; exact rfl) | ((with_reducible apply WR.ld); exact rfl; exact rfl; exact rfl; (first | exact ld2 | exact loadC_all (IsLawn.len (by assumption)))) | ((with_reducible apply WR.st); exact rfl; exact rfl; exact rfl; exact st2) | ((with_reducible apply WR.ex); exact rfl; exact rfl) | ((with_reducible apply WR.al); exact rfl; (first | exact rfl | assumption)) | ((with_reducible apply WR.nil)) | (with_reducible refine andThen_n ?_) | (with_reducible refine andThen_x ?_) | (with_reducible refine inB_x ?_) | (with_reducible refine W.seq ?_) | (with_reducible refine W.region ?_) | (with_reducible refine W.ret ?_) | (with_reducible refine W.exit ?_) | ((with_reducible apply W.condF); exact rfl) | ((with_reducible apply Done.f); (intro hh hh2; exact (nomatch hh2)); (focus ((repeat' first | exact all_nil | apply all_cons | exact res_tmp rfl | exact res_cell rfl rfl (by first | assumption | exact rfl) | exact rfl); done)); (focus ((repeat' first | exact all_nil | apply all_cons | exact retOf_s rfl | exact retOf_a rfl | exact rfl); done)); exact rfl; (focus ((repeat' first | exact outs_nil | apply outs_d | exact rfl); done))) | (intro hb; try (exfalso; omega)) | ((with_reducible apply WR.lss); exact rfl; exact rfl; exact rfl)
        rfl
  · rw [mvRes, if_neg hc]
    refine Gives.by rfl rfl (W.seq ?_)
    repeat' first | ((with_reducible apply WR.c_s (f := 25) (fn := Code.f25)); exact rfl; exact rfl; exact rfl; (first | exact rfl); (focus ((repeat' first | exact args_nil | apply args_d | exact toD_d rfl | exact toD_slC rfl rfl (by first | exact rfl) | exact all_nil | apply all_cons | exact rfl); done)); exact hmc) | ((with_reducible apply WR.mv); exact rfl; exact rfl) | ((with_reducible apply WR.ld); exact rfl; exact rfl; exact rfl; (first | exact ld2 | exact loadC_all (IsLawn.len (by assumption)) | exact loadC_all (IsLev.len (by assumption)))) | ((with_reducible apply WR.st); exact rfl; exact rfl; exact rfl; exact st2) | ((with_reducible apply WR.al); exact rfl; (first | exact rfl)) | ((with_reducible apply WR.bx); exact rfl; exact rfl; exact (by first | exact IsLev.len (by assumption) | exact IsLawn.len (by assumption) | exact rfl); (first | exact rfl)) | ((with_reducible apply WR.nil)) | (with_reducible refine andThen_n ?_) | (with_reducible refine andThen_r ?_) | (with_reducible refine W.seq ?_) | (with_reducible refine W.region ?_) | (with_reducible refine W.skip ?_) | (with_reducible refine W.ret ?_) | ((with_reducible apply W.condT); exact rfl) | ((with_reducible apply W.condF); exact rfl) | ((with_reducible apply Done.f); (intro hh hh2; exact (nomatch hh2)); (focus ((repeat' first | exact all_nil | apply all_cons | exact res_tmp rfl | exact res_cell rfl rfl (by first | exact IsLev.len (by assumption) | exact IsLawn.len (by assumption) | exact rfl) | exact rfl); done)); (focus ((repeat' first | exact all_nil | apply all_cons | exact retOf_s rfl | exact retOf_a rfl | exact rfl); done)); exact rfl; (focus ((repeat' first | exact outs_nil | apply outs_d | exact rfl); done))) | (intro hb; try (exfalso; omega)) | ((with_reducible apply WR.eql); exact rfl; exact rfl; exact rfl) | ((with_reducible apply WR.off); exact rfl) | ((with_reducible apply WR.neq); exact rfl; exact rfl; exact rfl) | ((with_reducible apply WR.bs1); exact rfl; exact rfl; (first | exact rfl)) | ((with_reducible apply WR.pk); exact rfl; exact rfl) | ((with_reducible apply WR.bu); exact rfl; exact rfl)
    all_goals first
      | (exfalso; omega)
      | (exfalso; exact hc (by assumption))
      | rfl
end Go.DM

/- Those cells for which something holds; slices.Repeat; codes of cells that have to be open. -/
set_option linter.unusedSimpArgs false
set_option linter.unusedVariables false
set_option maxHeartbeats 4000000
namespace Go.DM
set_option linter.unusedSectionVars false
variable [Tok]
open Go.IntWalk
variable {w h : Int} {g : Nat → Int} {cs : List S}

theorem thoseNot_gives {x : D} {P : Cel → Prop} [DecidablePred P] {dom : Cel → Prop} (hx : HoldsC G x P dom) (u v : Int) (hd : dom (u, v)) : Gives G 64 [ac u v, .d (.refd x)] (rb (decide (¬ P (u, v)))) := by
  refine Gives.by rfl rfl (W.seq ?_)
  repeat' first | ((with_reducible apply WR.vh hx); exact rfl; exact rfl; exact rfl; exact hd) | ((with_reducible apply WR.nil)) | (with_reducible refine andThen_n ?_) | (with_reducible refine W.seq ?_) | (with_reducible refine W.region ?_) | (with_reducible refine W.ret ?_) | ((with_reducible apply Done.f); (intro hh hh2; exact (nomatch hh2)); (focus ((repeat' first | exact all_nil | apply all_cons | exact res_tmp rfl | exact rfl); done)); (focus ((repeat' first | exact all_nil | apply all_cons | exact retOf_s rfl | exact rfl); done)); exact rfl; (focus ((repeat' first | exact outs_nil | apply outs_d | exact rfl); done))) | (intro hb; try (exfalso; omega)) | ((with_reducible apply WR.mv); exact rfl; exact rfl) | ((with_reducible apply WR.ld); exact rfl; exact rfl; exact rfl; (first | exact ld2)) | ((with_reducible apply WR.lx); exact rfl; exact rfl) | ((with_reducible apply WR.bx); exact rfl; exact rfl; exact (by first | exact rfl); (first | exact rfl)) | ((with_reducible apply WR.un); exact rfl; exact rfl)
  · exact rb_f (fun h => h (by assumption))
  · exact rb_t (by assumption)
/-- Those of all cells. -/
def those (w h : Int) (P : Cel → Prop) [DecidablePred P] : List Cel := (allC w h).filter fun c => decide (P c)
theorem those_kept (P : Cel → Prop) [DecidablePred P] : kept (fun c => ¬ P c) (allC w h) = those w h P := by
  unfold kept those
  apply List.filter_congr
  intro c _
  simp
section
variable {dsts : Nat → Option Nat} {ops : List Oper} {Q : St → Prop} {σ : St} {gd : Option (Nat × Bool)} {l1 l2 l3 l4 : List Nat}
theorem WR.de0 {e p f : Nat} {fn : Fn} {z : D} {a b : Opd} {v : V} (P : Cel → Prop) [DecidablePred P] (l : List Cel) (hl : l.length ≤ 1000) (hf : G f = some fn) (hm : fn.muts = []) (hP : ∀ c ∈ l, Gives G f [ac c.1 c.2, .d z] (rb (decide (P c))))
    (hw : wanted dsts σ.env gd = some true) (ha : ev σ.env a = .a (.sl p 0 l.length 2)) (ho : σ.objs p = some (.flat false (encC l))) (hb : ev σ.env b = v) (hz : toDV (fun o => if [p].contains o then none else σ.objs o) depth v = some (.clo f [] [z])) (hv : mutIds [] [v] = [])
    (k : WR G dsts ops Q (set (some e) (.a (.sl p 0 (kept P l).length 2)) (put p (.flat false (encC (kept P l ++ List.replicate (l.length - (kept P l).length) (0, 0)))) σ))) : WR G dsts (⟨some e, .call 63 [a, b], gd, l1, l2, l3, l4⟩ :: ops) Q σ :=
  WR.de P l [] hl hf hm hP hw ha (by rw [ho, List.append_nil]) hb hz hv (by rw [List.append_nil]; exact k)
end
theorem those_gives (l : IsLawn w h g cs) (hs : 0 ≤ w ∧ w ≤ 10 ∧ 0 ≤ h ∧ h ≤ 10) {x : D} {P : Cel → Prop} [DecidablePred P] {dom : Cel → Prop} (hx : HoldsC G x P dom) (hd : ∀ c, Has w h c.1 c.2 → dom c) :
    Gives G 31 [aa cs, .d x] ⟨[.own (those w h P).length 2 (encC (those w h P))], []⟩ := by
  have hal := allC_len (w := w) (h := h) (by omega)
  have hmem := fun c => allC_mem (w := w) (h := h) (c := c)
  have hk := those_kept (w := w) (h := h) P
  obtain ⟨f, fn, pre, post, rfl, h1, h2, h3⟩ := id hx
  refine Gives.by rfl rfl (W.seq ?_)
  repeat' first | ((with_reducible apply WR.c_o (f := 33) (fn := Code.f33)); exact rfl; exact rfl; exact rfl; (first | exact rfl); (focus ((repeat' first | exact args_nil | apply args_d | exact toD_d rfl | exact rfl); done)); exact all_gives (by assumption) (by omega); (first | exact rfl)) | ((with_reducible apply WR.nil)) | (with_reducible refine andThen_n ?_) | (with_reducible refine W.seq ?_) | (with_reducible refine W.region ?_) | ((with_reducible apply WR.mv); exact rfl; exact rfl) | ((with_reducible apply WR.bx); exact rfl; exact rfl; exact (by first | exact IsLawn.len (by assumption) | exact rfl); (first | exact rfl)) | ((with_reducible apply WR.bo); exact rfl; exact rfl; (first | exact rfl)) | ((with_reducible apply WR.ld); exact rfl; exact rfl; exact rfl; (first | exact loadC_all (IsLawn.len (by assumption)))) | ((with_reducible apply WR.mf); exact rfl; exact rfl)
  refine WR.de0 (fun c => ¬ P c) (allC w h) (by omega) rfl rfl (fun c hc => thoseNot_gives hx c.1 c.2 (hd _ (hmem c hc))) rfl rfl rfl rfl rfl rfl ?_
  rw [hk]
  repeat' first | ((with_reducible apply WR.nil)) | (with_reducible refine andThen_n ?_) | (with_reducible refine W.ret ?_) | ((with_reducible apply Done.f); (intro hh hh2; exact (nomatch hh2)); (focus ((repeat' first | exact all_nil | apply all_cons | exact res_tmp rfl); done)); (focus ((repeat' first | exact all_nil | apply all_cons | exact retOf_o2 rfl rfl rfl); done)); exact rfl; (focus ((repeat' first | exact outs_nil | apply outs_d); done))) | ((with_reducible apply WR.mv); exact rfl; exact rfl)
  all_goals rfl
/-- The closures of a lawn. -/
theorem holds_grass (l : IsLawn w h g cs) (hs : w ≤ 10 ∧ h ≤ 10) : HoldsC G (.clo 32 [.agg cs] []) (fun c => Is w h g 0 c.1 c.2) (fun _ => True) :=
  ⟨32, Code.f32, _, _, rfl, rfl, rfl, fun c _ => grass_gives l c.1 c.2 (.inl hs)⟩
theorem those_grass : those w h (fun c => Is w h g 0 c.1 c.2) = ofKind w h g 0 := by
  unfold those ofKind
  apply List.filter_congr
  intro c hc
  have := allC_mem hc
  rw [decide_eq_decide]
  exact ⟨fun h => h.2, fun h => ⟨this, h⟩⟩

/-! slices.Repeat. -/

theorem elems_sl {objs : Nat → Option Ob} {v : V} {o off n es : Nat} {b : Bool} {cs : List S} (hv : v = .a (.sl o off n es)) (ho : objs o = some (.flat b cs)) (hl : off + n * es ≤ cs.length) : elems objs es v = some (n, (cs.drop off).take (n * es)) := by
  subst hv; simp only [elems, ho]; rw [if_pos ⟨trivial, hl⟩]
theorem rep_list {n t k : Nat} (ht : t + k ≤ n) (hk : k ≤ t) :
    (rowI .i64 n (fun i => if i < t then -1 else 0)).take t ++ ((rowI .i64 n (fun i => if i < t then -1 else 0)).take t).take k ++ (rowI .i64 n (fun i => if i < t then -1 else 0)).drop (t + k) = rowI .i64 n (fun i => if i < t + k then -1 else 0) := by
  have hl := rowI_len (k := .i64) (n := n) (f := fun i => if i < t then -1 else 0)
  have h1 : ((rowI .i64 n (fun i => if i < t then -1 else 0)).take t).length = t := by rw [List.length_take]; omega
  have h2 : (((rowI .i64 n (fun i => if i < t then -1 else 0)).take t).take k).length = k := by rw [List.length_take]; omega
  refine List.ext_getElem? fun j => ?_
  by_cases hj : j < n
  · rw [rowI_get hj]
    by_cases hj1 : j < t
    · rw [List.append_assoc, List.getElem?_append_left (by omega), List.getElem?_take_of_lt hj1, rowI_get hj, if_pos hj1, if_pos (by omega)]
    · by_cases hj2 : j < t + k
      · rw [List.getElem?_append_left (by rw [List.length_append]; omega), List.getElem?_append_right (by omega), h1, List.getElem?_take_of_lt (by omega), List.getElem?_take_of_lt (by omega), rowI_get (by omega), if_pos (by omega), if_pos (by omega)]
      · rw [List.getElem?_append_right (by rw [List.length_append]; omega), List.length_append, h1, h2, List.getElem?_drop, show t + k + (j - (t + k)) = j by omega, rowI_get hj, if_neg (by omega), if_neg (by omega)]
  · rw [List.getElem?_eq_none (by rw [List.length_append, List.length_append, h1, h2, List.length_drop]; omega), List.getElem?_eq_none (by rw [rowI_len]; omega)]
theorem rep_first {n : Nat} (hn : 1 ≤ n) : (rowI .i64 n fun _ => 0).take 0 ++ [S.int .i64 (-1)].take (1 * 1) ++ (rowI .i64 n fun _ => 0).drop (0 + 1 * 1) = rowI .i64 n (fun i => if i < 1 then -1 else 0) := by
  obtain ⟨m, rfl⟩ : ∃ m, n = m + 1 := ⟨n - 1, by omega⟩
  simp [rowI, List.range_succ_eq_map]
end Go.DM
