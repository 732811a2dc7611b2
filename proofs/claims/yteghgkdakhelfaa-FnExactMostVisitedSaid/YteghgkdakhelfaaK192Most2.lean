/- The cell at which a mole is most often: both sides, the statement. -/
import Derived.Test.YteghgkdakhelfaaK192Most
import Derived.Test.YteghgkdakhelfaaK192NightsS
set_option linter.unusedSimpArgs false
set_option linter.unusedVariables false
set_option maxHeartbeats 4000000
namespace Go.DM
open Go.IntWalk
variable {w h : Int} {g : Nat → Int} {cs : List S} {q : Nat → Int} {qs : List S}
theorem path_in9 (hs : w ≤ 10 ∧ h ≤ 10) {m : Mole} (k : m.Ok) : ∀ n, ∀ c ∈ m.path w h g n, In9 c
  | 0, c, hc => by
    simp only [Mole.path, List.mem_singleton] at hc
    subst hc; exact k.a
  | n + 1, c, hc => by
    simp only [Mole.path, List.mem_append, List.mem_singleton] at hc
    rcases hc with hc | hc
    · exact path_in9 hs k n c hc
    · subst hc; exact (k.after hs (n + 1)).a
theorem ldC1 {l : List Cel} {k : Nat} (hk : k + 1 < l.length) : loadC 2 true (encC l) (0 + 1 * 2 + k * 2) = some (.a (.d (.agg [.int .i8 (gC l (k + 1)).1, .int .i8 (gC l (k + 1)).2]))) := by
  rw [show 0 + 1 * 2 + k * 2 = 0 + (k + 1) * 2 by omega]; exact ldC hk
theorem drop_take {l : List Cel} {i : Nat} (h : i + 1 < l.length) : (l.drop 1).take (i + 1) = (l.drop 1).take i ++ [gC l (i + 1)] := by
  rw [List.take_add_one, List.getElem?_drop, Nat.add_comm 1 i, gC_get h]; rfl
theorem mf_b (L : List Cel) (c : Cel) : 0 ≤ cntM (MF L) c ∧ cntM (MF L) c ≤ L.length := by
  rw [MF_cnt _ L rfl]; exact cntL_b L c
def mvRes (w h : Int) (g q : Nat → Int) (qs : List S) (a : Cel) (n : Int) : Res :=
  if molesCode w h g q a n = 0 then (if n = 0 then ⟨[.agg [.int .i8 0, .int .i8 0], .s (.int .i64 0), .s (.int .i64 6)], []⟩ else
    ⟨[.agg [.int .i8 (mostF (cntL (((Mole.mk q qs a a).path w h g n.toNat).drop 1)) (allC w h)).1.1, .int .i8 (mostF (cntL (((Mole.mk q qs a a).path w h g n.toNat).drop 1)) (allC w h)).1.2],
      .s (.int .i64 (mostF (cntL (((Mole.mk q qs a a).path w h g n.toNat).drop 1)) (allC w h)).2), .s (.int .i64 0)], []⟩)
  else ⟨[.agg [.int .i8 0, .int .i8 0], .s (.int .i64 0), .s (.int .i64 (molesCode w h g q a n))], []⟩
theorem most_map (L A : List Cel) : mostF (cntM (MF L)) A = mostF (cntL L) A := mostF_congr fun c _ => MF_cnt _ L rfl c
theorem mostP_gives (l : IsLawn w h g cs) (v : IsLev q qs) (a : Cel) (n : Int) : Gives G 199 [aa cs, aa qs, ac a.1 a.2, ai .i64 n] (mvRes w h g q qs a n) := by
  have hcode : belowCode (LevOk w h g q) ((∀ c ∈ [a], Has w h c.1 c.2) ∧ 0 ≤ n ∧ n ≤ 60) (∀ c ∈ [a], Is w h g 0 c.1 c.2) = molesCode w h g q a n :=
    belowCode_congr Iff.rfl ⟨fun h => ⟨h.2, h.1 a (by simp)⟩, fun h => ⟨by simpa using h.2, h.1⟩⟩ (by simp)
  have hmc := moleCode_gives l v n [a] (by simp)
  rw [hcode] at hmc
  by_cases hc : molesCode w h g q a n = 0
  · obtain ⟨hs, hn, ha, k0⟩ := moles_ok v hc
    have hL : LawnOk w h g := (belowCode_zero.1 hc).1.1
    rw [hc] at hmc
    by_cases h0 : n = 0
    · rw [mvRes, if_pos hc, if_pos h0]
      refine Gives.by rfl rfl (W.seq ?_)
      repeat' first | ((with_reducible apply WR.c_s (f := 25) (fn := Code.f25)); exact rfl; exact rfl; exact rfl; (first | exact rfl); (focus ((repeat' first | exact args_nil | apply args_d | exact toD_d rfl | exact toD_slC rfl rfl (by first | exact rfl) | exact all_nil | apply all_cons | exact rfl); done)); exact hmc) | ((with_reducible apply WR.mv); exact rfl; exact rfl) | ((with_reducible apply WR.ld); exact rfl; exact rfl; exact rfl; (first | exact ld2 | exact loadC_all (IsLawn.len (by assumption)) | exact loadC_all (IsLev.len (by assumption)))) | ((with_reducible apply WR.st); exact rfl; exact rfl; exact rfl; exact st2) | ((with_reducible apply WR.al); exact rfl; (first | exact rfl)) | ((with_reducible apply WR.bx); exact rfl; exact rfl; exact (by first | exact IsLev.len (by assumption) | exact IsLawn.len (by assumption) | exact rfl); (first | exact rfl)) | ((with_reducible apply WR.nil)) | (with_reducible refine andThen_n ?_) | (with_reducible refine andThen_r ?_) | (with_reducible refine W.seq ?_) | (with_reducible refine W.region ?_) | (with_reducible refine W.ret ?_) | ((with_reducible apply W.condT); exact rfl) | ((with_reducible apply Done.f); (intro hh hh2; exact (nomatch hh2)); (focus ((repeat' first | exact all_nil | apply all_cons | exact res_tmp rfl | exact res_cell rfl rfl (by first | exact IsLev.len (by assumption) | exact IsLawn.len (by assumption) | exact rfl) | exact rfl); done)); (focus ((repeat' first | exact all_nil | apply all_cons | exact retOf_s rfl | exact retOf_a rfl | exact rfl); done)); exact rfl; (focus ((repeat' first | exact outs_nil | apply outs_d | exact rfl); done))) | (intro hb; try (exfalso; omega)) | ((with_reducible apply WR.eql); exact rfl; exact rfl; exact rfl) | ((with_reducible apply WR.neq); exact rfl; exact rfl; exact rfl) | ((with_reducible apply WR.bs1); exact rfl; exact rfl; (first | exact rfl)) | ((with_reducible apply WR.pk); exact rfl; exact rfl) | ((with_reducible apply WR.bu); exact rfl; exact rfl)
      all_goals first
        | (exfalso; omega)
        | rfl
    · have hng := nights_gives l hs v a ha n.toNat (by omega)
      rw [show ((n.toNat : Nat) : Int) = n by omega] at hng
      have hpl := (Mole.mk q qs a a).path_length (w := w) (h := h) (g := g) n.toNat
      have hz := hL.1; have hz2 := hL.2.1
      rw [mvRes, if_pos hc, if_neg h0]
      have hv := (k0.after (w := w) (h := h) (g := g) hs n.toNat).v
      generalize (Mole.mk q qs a a).path w h g n.toNat = pth at hng hpl ⊢
      generalize (Mole.mk q qs a a).after w h g n.toNat = m at hng hv
      have hmo := mostOf_gives l (by omega) (MF (pth.drop 1))
      rw [most_map] at hmo
      generalize mostF (cntL (pth.drop 1)) (allC w h) = b at hmo ⊢
      refine Gives.by rfl rfl (W.seq ?_)
      repeat' first | ((with_reducible apply WR.c_s (f := 25) (fn := Code.f25)); exact rfl; exact rfl; exact rfl; (first | exact rfl); (focus ((repeat' first | exact args_nil | apply args_d | exact toD_d rfl | exact toD_slC rfl rfl (by first | exact rfl) | exact rfl); done)); exact hmc) | ((with_reducible apply WR.c_ao (f := 26) (fn := Code.f26)); exact rfl; exact rfl; exact rfl; (first | exact rfl); (focus ((repeat' first | exact args_nil | apply args_d | exact toD_d rfl | exact toD_slC rfl rfl (by first | exact rfl) | exact rfl); done)); exact hng; (first | exact rfl)) | ((with_reducible apply WR.mkm); exact rfl; exact rfl) | ((with_reducible apply WR.mv); exact rfl; exact rfl) | ((with_reducible apply WR.mvt); exact rfl; exact rfl) | ((with_reducible apply WR.ld); exact rfl; exact rfl; exact rfl; (first | exact ld2 | exact loadC_all (IsLawn.len (by assumption)) | exact loadC_all (IsLev.len (by assumption)))) | ((with_reducible apply WR.st); exact rfl; exact rfl; exact rfl; exact storeAll (by first | exact List.length_replicate .. | exact IsLev.len (by assumption) | exact IsLawn.len (by assumption) | exact rfl) (by first | exact List.length_replicate .. | exact IsLev.len (by assumption) | exact IsLawn.len (by assumption) | exact rfl)) | ((with_reducible apply WR.ex); exact rfl; exact rfl) | ((with_reducible apply WR.al); exact rfl; (first | exact rfl)) | ((with_reducible apply WR.bx); exact rfl; exact rfl; exact (by first | exact List.length_replicate .. | exact IsLev.len (by assumption) | exact IsLawn.len (by assumption) | exact rfl); (first | exact rfl)) | ((with_reducible apply WR.nil)) | (with_reducible refine andThen_n ?_) | (with_reducible refine W.seq ?_) | (with_reducible refine W.region ?_) | (with_reducible refine W.skip ?_) | (with_reducible refine W.block ?_) | ((with_reducible apply W.condF); exact rfl) | (intro hb; try (exfalso; omega)) | ((with_reducible apply WR.eql); exact rfl; exact rfl; exact rfl) | ((with_reducible apply WR.neq); exact rfl; exact rfl; exact rfl) | ((with_reducible apply WR.s2); exact rfl; exact rfl; (first | exact rfl); (first | exact rfl); exact ⟨by omega, by omega⟩) | ((with_reducible apply WR.bs1); exact rfl; exact rfl; (first | exact rfl)) | ((with_reducible apply WR.pk); exact rfl; exact rfl) | ((with_reducible apply WR.le); exact rfl; exact rfl)
      all_goals try (exfalso; omega)
      (refine (?_ : W _ (Code.loop _) _ _))
      (refine W.loopM [4, 8, 12, 45, 46] [4, 8, 2041] [16, 17] (fun zz : (Nat) × (List (Cel × Int)) => match zz with | (i, M) => (pth.length - i : Nat)) (fun zz : (Nat) × (List (Cel × Int)) => match zz with | (i, M) => (i ≤ pth.length - 1 ∧ M = MF ((pth.drop 1).take i) : Prop)) (fun zz : (Nat) × (List (Cel × Int)) => match zz with | (i, M) => [(47, .a (.d (.s (.int .i64 (i : Nat)))))]) (fun zz : (Nat) × (List (Cel × Int)) => match zz with | (i, M) => [(35, .map KC (encM M))]) (0, []) (⟨by omega, rfl⟩) ⟨rfl, trivial⟩ ⟨rfl, trivial⟩ ⟨(by (repeat' first | exact rfl | assumption | (with_reducible apply noPar_set) | ((with_reducible apply noPar_puto); exact rfl) | (with_reducible apply noPar_put) | (with_reducible apply noPar_putv) | (with_reducible apply noPar_putm) | (with_reducible apply noPar_kill) | ((with_reducible apply noPar_mix); exact rfl) | ((with_reducible apply noPar_mixT); exact rfl)); done), (by (repeat' first | exact rfl | assumption | (with_reducible apply noPar_set) | ((with_reducible apply noPar_puto); exact rfl) | (with_reducible apply noPar_put) | (with_reducible apply noPar_putv) | (with_reducible apply noPar_putm) | (with_reducible apply noPar_kill) | ((with_reducible apply noPar_mix); exact rfl) | ((with_reducible apply noPar_mixT); exact rfl)); done), trivial⟩ ?_)
      rintro ⟨i, M⟩ σ hP hN; dsimp only [setL, putL] at hP ⊢; obtain ⟨n16, hN⟩ := hN; obtain ⟨n17, hN⟩ := hN
      obtain ⟨hi, hM⟩ := hP
      by_cases hil : i < pth.length - 1
      · have hb0 := mf_b ((pth.drop 1).take i) (gC pth (i + 1))
        rw [← hM, List.length_take] at hb0
        have hb1 : 0 ≤ cntM M ((gC pth (i + 1)).1, (gC pth (i + 1)).2) ∧ cntM M ((gC pth (i + 1)).1, (gC pth (i + 1)).2) ≤ 100 := by
          show 0 ≤ cntM M (gC pth (i + 1)) ∧ cntM M (gC pth (i + 1)) ≤ 100
          omega
        repeat' first | ((with_reducible apply WR.ld); exact rfl; exact rfl; exact rfl; exact ldC1 (by omega)) | ((with_reducible apply WH.mget); exact rfl; exact rfl; exact rfl; exact rfl) | ((with_reducible apply WH.ment); exact rfl; exact rfl; exact rfl; exact rfl; exact rfl) | ((with_reducible apply WH.mest); exact rfl; exact rfl; exact rfl; exact rfl; exact rfl; exact (entM_at _ _).1; exact rfl) | ((with_reducible apply WR.mv); exact rfl; exact rfl) | ((with_reducible apply WR.st); exact rfl; exact rfl; exact rfl; exact st2) | ((with_reducible apply WR.al); exact rfl; (first | assumption)) | ((with_reducible apply WR.nil)) | (with_reducible refine andThen_n ?_) | (with_reducible refine inB_n ?_) | (with_reducible refine W.seq ?_) | (with_reducible refine W.region ?_) | (with_reducible refine W.skip ?_) | (with_reducible refine W.block ?_) | ((with_reducible apply W.condT); exact rfl) | ((with_reducible apply WH.nil)) | (with_reducible refine W.draw ?_) | (intro hb; try (exfalso; omega)) | ((with_reducible apply WR.lss); exact rfl; exact rfl; exact rfl) | ((with_reducible apply WR.ad); exact rfl; exact rfl; exact rfl; (first | exact i64_in _ (by omega) | assumption)) | ((with_reducible apply WR.isn); exact rfl; exact rfl; exact rfl; omega) | ((with_reducible apply WH.mv); exact rfl; exact rfl; exact rfl) | ((with_reducible apply WH.ad); exact rfl; exact rfl; exact rfl; (first | exact i64_in _ (by omega) | assumption)) | ((with_reducible apply WH.ld); exact rfl; exact rfl; exact rfl; (first | exact ld2); exact rfl) | ((with_reducible apply WH.ex); exact rfl; exact rfl; exact rfl)
        (refine W.nxt ((i + 1, bumpM M (gC pth (i + 1)))) (by first | omega | (dsimp only; omega)) ?_ ⟨rfl, trivial⟩ ⟨rfl, trivial⟩ ⟨rfl, rfl, rfl, rfl, rfl, trivial⟩ ⟨rfl, rfl, rfl, trivial⟩ ⟨(by (repeat' first | exact rfl | assumption | (with_reducible apply noPar_set) | ((with_reducible apply noPar_puto); exact rfl) | (with_reducible apply noPar_put) | (with_reducible apply noPar_putv) | (with_reducible apply noPar_putm) | (with_reducible apply noPar_kill) | ((with_reducible apply noPar_mix); exact rfl) | ((with_reducible apply noPar_mixT); exact rfl)); done), (by (repeat' first | exact rfl | assumption | (with_reducible apply noPar_set) | ((with_reducible apply noPar_puto); exact rfl) | (with_reducible apply noPar_put) | (with_reducible apply noPar_putv) | (with_reducible apply noPar_putm) | (with_reducible apply noPar_kill) | ((with_reducible apply noPar_mix); exact rfl) | ((with_reducible apply noPar_mixT); exact rfl)); done), trivial⟩); (try dsimp only)
        exact ⟨by omega, by rw [hM, drop_take (by omega), MF_snoc]⟩
      · obtain rfl : i = pth.length - 1 := by omega
        rw [List.take_of_length_le (by simp)] at hM
        rw [← hM] at hmo
        repeat' first | ((with_reducible apply WR.c_as (f := 205) (fn := Code.f205)); exact rfl; exact rfl; exact rfl; (first | exact rfl); (focus ((repeat' first | exact args_nil | apply args_d | exact toD_d rfl | exact all_nil | apply all_cons | exact rfl); done)); exact hmo) | ((with_reducible apply WR.mv); exact rfl; exact rfl) | ((with_reducible apply WR.mvt); exact rfl; exact rfl) | ((with_reducible apply WR.ld); exact rfl; exact rfl; exact rfl; (first | exact ld2 | exact loadC_all (IsLawn.len (by assumption)))) | ((with_reducible apply WR.st); exact rfl; exact rfl; exact rfl; exact st2) | ((with_reducible apply WR.ex); exact rfl; exact rfl) | ((with_reducible apply WR.al); exact rfl; (first | exact rfl | assumption)) | ((with_reducible apply WR.nil)) | (with_reducible refine andThen_n ?_) | (with_reducible refine andThen_x ?_) | (with_reducible refine inB_x ?_) | (with_reducible refine W.seq ?_) | (with_reducible refine W.region ?_) | (with_reducible refine W.ret ?_) | (with_reducible refine W.exit ?_) | ((with_reducible apply W.condF); exact rfl) | ((with_reducible apply Done.f); (intro hh hh2; exact (nomatch hh2)); (focus ((repeat' first | exact all_nil | apply all_cons | exact res_tmp rfl | exact res_cell rfl rfl (by first | assumption | exact rfl) | exact rfl); done)); (focus ((repeat' first | exact all_nil | apply all_cons | exact retOf_s rfl | exact retOf_a rfl | exact rfl); done)); exact rfl; (focus ((repeat' first | exact outs_nil | apply outs_d | exact rfl); done))) | (intro hb; try (exfalso; omega)) | ((with_reducible apply WR.lss); exact rfl; exact rfl; exact rfl)
        rfl
  · rw [mvRes, if_neg hc]
    refine Gives.by rfl rfl (W.seq ?_)
    repeat' first | ((with_reducible apply WR.c_s (f := 25) (fn := Code.f25)); exact rfl; exact rfl; exact rfl; (first | exact rfl); (focus ((repeat' first | exact args_nil | apply args_d | exact toD_d rfl | exact toD_slC rfl rfl (by first | exact rfl) | exact all_nil | apply all_cons | exact rfl); done)); exact hmc) | ((with_reducible apply WR.mv); exact rfl; exact rfl) | ((with_reducible apply WR.ld); exact rfl; exact rfl; exact rfl; (first | exact ld2 | exact loadC_all (IsLawn.len (by assumption)) | exact loadC_all (IsLev.len (by assumption)))) | ((with_reducible apply WR.st); exact rfl; exact rfl; exact rfl; exact st2) | ((with_reducible apply WR.al); exact rfl; (first | exact rfl)) | ((with_reducible apply WR.bx); exact rfl; exact rfl; exact (by first | exact IsLev.len (by assumption) | exact IsLawn.len (by assumption) | exact rfl); (first | exact rfl)) | ((with_reducible apply WR.nil)) | (with_reducible refine andThen_n ?_) | (with_reducible refine andThen_r ?_) | (with_reducible refine W.seq ?_) | (with_reducible refine W.region ?_) | (with_reducible refine W.skip ?_) | (with_reducible refine W.ret ?_) | ((with_reducible apply W.condT); exact rfl) | ((with_reducible apply W.condF); exact rfl) | ((with_reducible apply Done.f); (intro hh hh2; exact (nomatch hh2)); (focus ((repeat' first | exact all_nil | apply all_cons | exact res_tmp rfl | exact res_cell rfl rfl (by first | exact IsLev.len (by assumption) | exact IsLawn.len (by assumption) | exact rfl) | exact rfl); done)); (focus ((repeat' first | exact all_nil | apply all_cons | exact retOf_s rfl | exact retOf_a rfl | exact rfl); done)); exact rfl; (focus ((repeat' first | exact outs_nil | apply outs_d | exact rfl); done))) | (intro hb; try (exfalso; omega)) | ((with_reducible apply WR.eql); exact rfl; exact rfl; exact rfl) | ((with_reducible apply WR.off); exact rfl) | ((with_reducible apply WR.neq); exact rfl; exact rfl; exact rfl) | ((with_reducible apply WR.bs1); exact rfl; exact rfl; (first | exact rfl)) | ((with_reducible apply WR.pk); exact rfl; exact rfl) | ((with_reducible apply WR.bu); exact rfl; exact rfl)
    all_goals first
      | (exfalso; omega)
      | (exfalso; exact hc (by assumption))
      | rfl
end Go.DM
