/- Moles told of: the statement. -/
import Derived.Test.YtaocbbdkiemhaaaK356Moles3
set_option linter.unusedSimpArgs false
set_option linter.unusedVariables false
set_option maxHeartbeats 8000000
namespace Go.DM
set_option linter.unusedSectionVars false
variable [Tok]
open Go.IntWalk
theorem law_Moles (u0 : (Tok.dat 0).length ≤ 9223372036854775807) (u1 : (Tok.dat 1).length ≤ 9223372036854775807) : Gives G 356 [.d (.s (.tok 0)), .d (.s (.tok 1))] (rb true) := by
  have hbig0 := f6big_gives 0 u0
  have hbig1 := f6big_gives 1 u1
  by_cases b0 : 4096 < (Tok.dat 0).length
  · rw [decide_eq_true b0] at hbig0
    refine Gives.by rfl rfl (W.seq ?_)
    repeat' first | ((with_reducible apply WR.c_s (f := 358) (fn := Code.f358)); exact rfl; exact rfl; exact rfl; (first | exact rfl); (focus ((repeat' first | exact args_nil | apply args_d | exact toD_d rfl | exact all_nil | apply all_cons | exact rfl); done)); exact hbig0) | ((with_reducible apply WR.mv); exact rfl; exact rfl) | ((with_reducible apply WR.off); exact rfl) | ((with_reducible apply WR.pk); exact rfl; exact rfl) | ((with_reducible apply WR.nil)) | (with_reducible refine andThen_n ?_) | (with_reducible refine andThen_r ?_) | (with_reducible refine W.seq ?_) | (with_reducible refine W.region ?_) | (with_reducible refine W.ret ?_) | ((with_reducible apply W.condT); exact rfl) | ((with_reducible apply Done.f); (intro hh hh2; exact (nomatch hh2)); (focus ((repeat' first | exact all_nil | apply all_cons | exact res_tmp rfl | exact rfl); done)); (focus ((repeat' first | exact all_nil | apply all_cons | exact retOf_s rfl | exact rfl); done)); exact rfl; (focus ((repeat' first | exact outs_nil | apply outs_d | exact rfl); done)))
    rfl
  by_cases b1 : 4096 < (Tok.dat 1).length
  · rw [decide_eq_false b0] at hbig0
    rw [decide_eq_true b1] at hbig1
    refine Gives.by rfl rfl (W.seq ?_)
    repeat' first | ((with_reducible apply WR.c_s (f := 358) (fn := Code.f358)); exact rfl; exact rfl; exact rfl; (first | exact rfl); (focus ((repeat' first | exact args_nil | apply args_d | exact toD_d rfl | exact all_nil | apply all_cons | exact rfl); done)); exact hbig0) | ((with_reducible apply WR.c_s (f := 358) (fn := Code.f358)); exact rfl; exact rfl; exact rfl; (first | exact rfl); (focus ((repeat' first | exact args_nil | apply args_d | exact toD_d rfl | exact all_nil | apply all_cons | exact rfl); done)); exact hbig1) | ((with_reducible apply WR.mv); exact rfl; exact rfl) | ((with_reducible apply WR.pk); exact rfl; exact rfl) | ((with_reducible apply WR.nil)) | (with_reducible refine andThen_n ?_) | (with_reducible refine andThen_r ?_) | (with_reducible refine W.seq ?_) | (with_reducible refine W.region ?_) | (with_reducible refine W.ret ?_) | ((with_reducible apply W.condT); exact rfl) | ((with_reducible apply Done.f); (intro hh hh2; exact (nomatch hh2)); (focus ((repeat' first | exact all_nil | apply all_cons | exact res_tmp rfl | exact rfl); done)); (focus ((repeat' first | exact all_nil | apply all_cons | exact retOf_s rfl | exact rfl); done)); exact rfl; (focus ((repeat' first | exact outs_nil | apply outs_d | exact rfl); done)))
    rfl
  rw [decide_eq_false b0] at hbig0
  rw [decide_eq_false b1] at hbig1
  obtain ⟨w, h, g, hw, hh, hk, hlawn⟩ := p6lawn_gives 0 (by omega)
  have l := lwn_is hw hh hk
  have hLk := lwn_ok hw hh hk
  generalize lwn w h g = cs at hlawn l
  obtain ⟨q, hL, v, hlev⟩ := p6levels_gives l hLk 1 (by omega)
  generalize grid .i8 q = qs at hlev v
  obtain ⟨n0, n1, _, n2, hpn⟩ := p6pick_gives 1 8 (by omega) (by omega)
  obtain ⟨n, rfl⟩ : ∃ n : Nat, n0 = n := ⟨n0.toNat, by omega⟩
  have hgr := grassOf_gives l (by omega)
  have hFl : (ofKind w h g 0).length ≤ 100 := Nat.le_trans (List.length_filter_le ..) (allC_len (by omega))
  have hFis : ∀ c ∈ ofKind w h g 0, Is w h g 0 c.1 c.2 := fun c hc => by
    have h2 := List.mem_filter.1 hc
    exact ⟨allC_mem h2.1, by simpa using h2.2⟩
  have hs : w ≤ 10 ∧ h ≤ 10 := by omega
  -- the nights from each cell
  let PT : Cel → List Cel := fun f => (Mole.mk q qs f f).path w h g n
  let LV : Cel → List S := fun f => ((Mole.mk q qs f f).after w h g n).qs
  have key : ∀ f ∈ ofKind w h g 0, molesCode w h g q f n = 0 := fun f hf => belowCode_zero.2 ⟨hL, ⟨by omega, (hFis f hf).1⟩, hFis f hf⟩
  have ok : ∀ f ∈ ofKind w h g 0, (Mole.mk q qs f f).Ok := fun f hf => (moles_ok v (key f hf)).2.2.2
  have htc : trapCode w h g q n = 0 := by rw [trapCode, if_pos hL, if_pos (by omega)]
  have hp : Paths w h g (ofKind w h g 0) PT LV := by
    refine ⟨fun f hf => ?_, fun f hf => ?_, fun f hf => ?_, fun f hf => ?_⟩
    · have := (Mole.mk q qs f f).path_length (w := w) (h := h) (g := g) n
      show 1 ≤ ((Mole.mk q qs f f).path w h g n).length ∧ _
      rw [this]; omega
    · exact path_is (m := Mole.mk q qs f f) (hFis f hf) n
    · exact path_head (Mole.mk q qs f f) n
    · exact ⟨_, ((ok f hf).after hs n).v⟩
  have h1 := trapS_gives l v n (PT := PT) (LV := LV) (fun _ => hp) (fun hc f hf => by
    have h := moleNightsS_gives l v f n (by have := (ok f hf).a; simp only at this; omega)
    rw [molesRes, if_pos (key f hf)] at h
    exact h)
  have h2 := trapP_gives l v n (PT := PT) (LV := LV) (fun _ => hp) (fun hc f hf => by
    have h := nights_gives l hs v f (ok f hf).a n (by omega)
    exact h)
  by_cases hF0 : ofKind w h g 0 = []
  · rw [btRes, if_pos htc, if_pos hF0] at h1 h2
    rw [hF0] at hgr
    refine Gives.by rfl rfl (W.seq ?_)
    repeat' first | ((with_reducible apply WR.c_s (f := 358) (fn := Code.f358)); exact rfl; exact rfl; exact rfl; (first | exact rfl); (focus ((repeat' first | exact args_nil | apply args_d | exact toD_d rfl | exact all_nil | apply all_cons | exact rfl); done)); exact hbig0) | ((with_reducible apply WR.c_s (f := 358) (fn := Code.f358)); exact rfl; exact rfl; exact rfl; (first | exact rfl); (focus ((repeat' first | exact args_nil | apply args_d | exact toD_d rfl | exact all_nil | apply all_cons | exact rfl); done)); exact hbig1) | ((with_reducible apply WR.c_a (f := 359) (fn := Code.f359)); exact rfl; exact rfl; exact rfl; (first | exact rfl); (focus ((repeat' first | exact args_nil | apply args_d | exact toD_d rfl | exact all_nil | apply all_cons | exact rfl); done)); exact hlawn) | ((with_reducible apply WR.c_a (f := 360) (fn := Code.f360)); exact rfl; exact rfl; exact rfl; (first | exact rfl); (focus ((repeat' first | exact args_nil | apply args_d | exact toD_d rfl | exact all_nil | apply all_cons | exact rfl); done)); exact hlev) | ((with_reducible apply WR.c_o (f := 361) (fn := Code.f361)); exact rfl; exact rfl; exact rfl; (first | exact rfl); (focus ((repeat' first | exact args_nil | apply args_d | exact toD_d rfl | exact all_nil | apply all_cons | exact rfl); done)); exact hgr; (first | (focus ((repeat' first | (with_reducible apply noPar_set) | ((with_reducible apply noPar_puto); exact rfl) | (with_reducible apply noPar_kill) | exact rfl); done)) | exact rfl)) | ((with_reducible apply WR.c_s (f := 362) (fn := Code.f362)); exact rfl; exact rfl; exact rfl; (first | exact rfl); (focus ((repeat' first | exact args_nil | apply args_d | exact toD_d rfl | exact all_nil | apply all_cons | exact rfl); done)); exact hpn) | ((with_reducible apply WR.c_ass (f := 201) (fn := Code.f201)); exact rfl; exact rfl; exact rfl; (first | exact rfl); (focus ((repeat' first | exact args_nil | apply args_d | exact toD_d rfl | exact all_nil | apply all_cons | exact rfl); done)); exact h2) | ((with_reducible apply WR.c_ass (f := 200) (fn := Code.f200)); exact rfl; exact rfl; exact rfl; (first | exact rfl); (focus ((repeat' first | exact args_nil | apply args_d | exact toD_d rfl | exact all_nil | apply all_cons | exact rfl); done)); exact h1) | ((with_reducible apply WR.mv); exact rfl; exact rfl) | ((with_reducible apply WR.mvt); exact rfl; exact rfl) | ((with_reducible apply WR.ld); exact rfl; exact rfl; exact rfl; (first | exact ld2 | exact loadC_all (IsLawn.len (by assumption)) | exact loadC_all (IsLev.len (by assumption)))) | ((with_reducible apply WR.ex); exact rfl; exact rfl) | ((with_reducible apply WR.st); exact rfl; exact rfl; exact rfl; exact st2) | ((with_reducible apply WR.st); exact rfl; exact rfl; exact rfl; exact storeAll (by first | exact List.length_replicate .. | exact IsLev.len (by assumption) | exact IsLawn.len (by assumption) | exact rfl) (by first | exact List.length_replicate .. | exact IsLev.len (by assumption) | exact IsLawn.len (by assumption) | exact rfl)) | ((with_reducible apply WR.pk); exact rfl; exact rfl) | ((with_reducible apply WR.neq); exact rfl; exact rfl; exact rfl) | ((with_reducible apply WR.al); exact rfl; (first | (focus ((repeat' first | (with_reducible apply noPar_set) | ((with_reducible apply noPar_puto); exact rfl) | (with_reducible apply noPar_kill) | exact rfl); done)) | exact rfl)) | ((with_reducible apply WR.le); exact rfl; exact rfl) | ((with_reducible apply WR.en); exact rfl; exact rfl; exact rfl) | ((with_reducible apply WR.ebb); exact rfl; exact rfl; exact rfl) | ((with_reducible apply WR.gtr); exact rfl; exact rfl; exact rfl) | ((with_reducible apply WR.eql); exact rfl; exact rfl; exact rfl) | ((with_reducible apply WR.nil)) | (with_reducible refine andThen_n ?_) | (with_reducible refine andThen_r ?_) | (with_reducible refine W.seq ?_) | (with_reducible refine W.region ?_) | (with_reducible refine W.skip ?_) | (with_reducible refine W.ret ?_) | ((with_reducible apply W.condT); exact rfl) | ((with_reducible apply W.condF); exact rfl) | ((with_reducible apply Done.f); (intro hh hh2; exact (nomatch hh2)); (focus ((repeat' first | exact all_nil | apply all_cons | exact res_tmp rfl | exact rfl); done)); (focus ((repeat' first | exact all_nil | apply all_cons | exact retOf_s rfl | exact rfl); done)); exact rfl; (focus ((repeat' first | exact outs_nil | apply outs_d | exact rfl); done))) | (intro hb; try (exfalso; omega))
    all_goals first | rfl | (exfalso; revert hb; simp; done)
  have hFpos : 0 < (ofKind w h g 0).length := List.length_pos_iff.2 hF0
  rw [btRes, if_pos htc, if_neg hF0] at h1 h2
  obtain ⟨i2, j1, j2, j3, hp2⟩ := p6pick_gives 0 (ofKind w h g 0).length (by omega) (by omega)
  obtain ⟨i3, k1, k2, k3, hp3⟩ := p6pick_gives 1 (ofKind w h g 0).length (by omega) (by omega)
  obtain ⟨r2, rfl⟩ : ∃ r : Nat, i2 = r := ⟨i2.toNat, by omega⟩
  obtain ⟨r3, rfl⟩ : ∃ r : Nat, i3 = r := ⟨i3.toNat, by omega⟩
  have hge := fun c hc => mostF_ge (cntL (totL PT (ofKind w h g 0))) _ (ofKind w h g 0) rfl c hc
  have hat := mostF_at (cntL (totL PT (ofKind w h g 0))) _ (ofKind w h g 0) rfl
  have hpos := best_pos hp hF0
  refine moles_main (w := w) (h := h) (g := g) (cs := cs) (q := q) (qs := qs) (n := n) (F := ofKind w h g 0) (px := (bestB PT (ofKind w h g 0)).1.1) (py := (bestB PT (ofKind w h g 0)).1.2) (M := (bestB PT (ofKind w h g 0)).2)
    ⟨l, v, hL, ⟨by omega, by omega⟩, by omega, rfl, hFl, hFis, hbig0, hbig1, hlawn, hlev, hpn, hgr, h1, h2, fun c hc => ?_, fun c hc hcc => ?_, ok, key⟩ r2 r3 (by omega) (by omega) hp2 hp3
  · rw [← hasN_tot]
    exact hge c hc
  · rw [← hasN_tot]
    unfold bestB at hcc hpos ⊢
    rcases hat with e | ⟨_, e⟩
    · rw [e] at hpos
      exact absurd hpos (by decide)
    · rw [← e]
      congr 1
      exact Prod.ext hcc.1 hcc.2
end Go.DM
