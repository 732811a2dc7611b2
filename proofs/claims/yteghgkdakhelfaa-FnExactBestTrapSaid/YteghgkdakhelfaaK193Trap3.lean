/- The best trap: the reference's side, the statement. -/
import Derived.Test.YteghgkdakhelfaaK193Trap2
import Derived.Test.YteghgkdakhelfaaK193Most3
set_option linter.unusedSimpArgs false
set_option linter.unusedVariables false
set_option maxHeartbeats 4000000
namespace Go.DM
open Go.IntWalk
variable {w h : Int} {g : Nat → Int} {cs : List S} {q : Nat → Int} {qs : List S}
/-- The nights from each cell, as the reference tells them. -/
def NightsS (cs qs : List S) (n : Int) (F : List Cel) (PT : Cel → List Cel) (LV : Cel → List S) : Prop :=
  ∀ f ∈ F, Gives G 22 [aa cs, aa qs, ac f.1 f.2, ai .i64 n] ⟨[.agg (LV f), .own (PT f).length 2 (encC (PT f)), .s (.int .i64 0)], []⟩
theorem trapS_gives (l : IsLawn w h g cs) (v : IsLev q qs) (n : Int) {PT : Cel → List Cel} {LV : Cel → List S} (hp : trapCode w h g q n = 0 → Paths w h g (ofKind w h g 0) PT LV)
    (hng : trapCode w h g q n = 0 → NightsS cs qs n (ofKind w h g 0) PT LV) :
    Gives G 200 [aa cs, aa qs, ai .i64 n] (btRes (trapCode w h g q n) PT (ofKind w h g 0)) := by
  have hmc := l06Asked_gives l v n
  have hnt := l06Nights_gives n
  by_cases hc : trapCode w h g q n = 0
  · have hLv : LevOk w h g q := by
      unfold trapCode at hc
      split at hc
      · assumption
      · cases hc
    have hz := hLv.1.1; have hz2 := hLv.1.2.1
    have hp := hp hc
    have hng := hng hc
    rw [hc] at hmc
    have hcl := l01Cells_gives l 0 (by omega)
    have hal := allC_len (w := w) (h := h) (by omega)
    have hFl : (ofKind w h g 0).length ≤ 100 := Nat.le_trans (List.length_filter_le _ _) hal
    have h9 : ∀ f ∈ ofKind w h g 0, In9 f := fun f hf => by
      have := (hp.is f hf f (hp.hd f hf)).1
      unfold In9; omega
    have hI9 : ∀ f ∈ ofKind w h g 0, ∀ c ∈ PT f, In9 c := fun f hf c hc => by
      have := (hp.is f hf c hc).1
      unfold In9; omega
    rw [btRes, if_pos hc]
    generalize ofKind w h g 0 = F at hp hng hcl hFl h9 hI9 ⊢
    by_cases hF : F = []
    · subst hF
      rw [if_pos rfl]
      refine Gives.by rfl rfl (W.seq ?_)
      repeat' first | ((with_reducible apply WR.c_s (f := 52) (fn := Code.f52)); exact rfl; exact rfl; exact rfl; (first | exact rfl); (focus ((repeat' first | exact args_nil | apply args_d | exact toD_d rfl | exact toD_ptr rfl rfl | exact all_nil | apply all_cons | exact rfl); done)); exact hnt) | ((with_reducible apply WR.c_s (f := 206) (fn := Code.f206)); exact rfl; exact rfl; exact rfl; (first | exact rfl); (focus ((repeat' first | exact args_nil | apply args_d | exact toD_d rfl | exact toD_ptr rfl rfl | exact all_nil | apply all_cons | exact rfl); done)); exact hmc) | ((with_reducible apply WR.c_o (f := 29) (fn := Code.f29)); exact rfl; exact rfl; exact rfl; (first | exact rfl); (focus ((repeat' first | exact args_nil | apply args_d | exact toD_d rfl | exact toD_ptr rfl rfl | exact all_nil | apply all_cons | exact rfl); done)); exact hcl; (first | exact rfl)) | ((with_reducible apply WR.mv); exact rfl; exact rfl) | ((with_reducible apply WR.st); exact rfl; exact rfl; exact rfl; exact st2) | ((with_reducible apply WR.st); exact rfl; exact rfl; exact rfl; exact storeAll (by first | exact List.length_replicate .. | exact IsLev.len (by assumption) | exact IsLawn.len (by assumption) | exact rfl) (by first | exact List.length_replicate .. | exact IsLev.len (by assumption) | exact IsLawn.len (by assumption) | exact rfl)) | ((with_reducible apply WR.bu); exact rfl; exact rfl) | ((with_reducible apply WR.le); exact rfl; exact rfl) | ((with_reducible apply WR.al); exact rfl; (first | exact rfl)) | ((with_reducible apply WR.nil)) | (with_reducible refine andThen_n ?_) | (with_reducible refine andThen_r ?_) | (with_reducible refine W.seq ?_) | (with_reducible refine W.region ?_) | (with_reducible refine W.skip ?_) | (with_reducible refine W.ret ?_) | (with_reducible refine W.block ?_) | ((with_reducible apply W.condT); exact rfl) | ((with_reducible apply W.condF); exact rfl) | ((with_reducible apply Done.f); (intro hh hh2; exact (nomatch hh2)); (focus ((repeat' first | exact all_nil | apply all_cons | exact res_tmp rfl | exact res_cell rfl rfl (by first | exact List.length_replicate .. | exact IsLev.len (by assumption) | exact IsLawn.len (by assumption) | exact rfl) | exact rfl); done)); (focus ((repeat' first | exact all_nil | apply all_cons | exact retOf_s rfl | exact retOf_a rfl | exact rfl); done)); exact rfl; (focus ((repeat' first | exact outs_nil | apply outs_d | exact rfl); done))) | (intro hb; try (exfalso; omega)) | ((with_reducible apply WR.bx); exact rfl; exact rfl; exact (by first | exact List.length_replicate .. | exact IsLev.len (by assumption) | exact IsLawn.len (by assumption) | exact rfl); (first | exact rfl)) | ((with_reducible apply WR.eql); exact rfl; exact rfl; exact rfl) | ((with_reducible apply WR.neq); exact rfl; exact rfl; exact rfl)
      all_goals first
        | (exfalso; exact absurd rfl (by assumption))
        | rfl
    · rw [if_neg hF]
      have hFp := List.length_pos_iff.2 hF
      refine Gives.by rfl rfl (W.seq ?_)
      repeat' first | ((with_reducible apply WR.c_s (f := 52) (fn := Code.f52)); exact rfl; exact rfl; exact rfl; (first | exact rfl); (focus ((repeat' first | exact args_nil | apply args_d | exact toD_d rfl | exact toD_ptr rfl rfl | exact rfl); done)); exact hnt) | ((with_reducible apply WR.c_s (f := 206) (fn := Code.f206)); exact rfl; exact rfl; exact rfl; (first | exact rfl); (focus ((repeat' first | exact args_nil | apply args_d | exact toD_d rfl | exact toD_ptr rfl rfl | exact rfl); done)); exact hmc) | ((with_reducible apply WR.c_o (f := 29) (fn := Code.f29)); exact rfl; exact rfl; exact rfl; (first | exact rfl); (focus ((repeat' first | exact args_nil | apply args_d | exact toD_d rfl | exact toD_ptr rfl rfl | exact rfl); done)); exact hcl; (first | exact rfl)) | ((with_reducible apply WR.mv); exact rfl; exact rfl) | ((with_reducible apply WR.st); exact rfl; exact rfl; exact rfl; exact storeAll (by first | exact List.length_replicate .. | exact IsLev.len (by assumption) | exact IsLawn.len (by assumption) | exact rfl) (by first | exact List.length_replicate .. | exact IsLev.len (by assumption) | exact IsLawn.len (by assumption) | exact rfl)) | ((with_reducible apply WR.bu); exact rfl; exact rfl) | ((with_reducible apply WR.le); exact rfl; exact rfl) | ((with_reducible apply WR.al); exact rfl; (first | exact rfl)) | ((with_reducible apply WR.nil)) | (with_reducible refine andThen_n ?_) | (with_reducible refine W.seq ?_) | (with_reducible refine W.region ?_) | (with_reducible refine W.skip ?_) | (with_reducible refine W.block ?_) | ((with_reducible apply W.condF); exact rfl) | (intro hb; try (exfalso; omega)) | ((with_reducible apply WR.bx); exact rfl; exact rfl; exact (by first | exact List.length_replicate .. | exact IsLev.len (by assumption) | exact IsLawn.len (by assumption) | exact rfl); (first | exact rfl)) | ((with_reducible apply WR.eql); exact rfl; exact rfl; exact rfl) | ((with_reducible apply WR.neq); exact rfl; exact rfl; exact rfl)
      all_goals try (exfalso; omega)
      (refine (?_ : W _ (Code.loop _) _ _))
      (refine W.loopM [2, 3, 4, 6, 10, 11] [3, 4, 6, 27] [13, 16, 18, 2047] (fun zz : (Nat) × (Nat → Int) => match zz with | (k, q) => (F.length - k : Nat)) (fun zz : (Nat) × (Nat → Int) => match zz with | (k, q) => (k ≤ F.length ∧ q = QF (totL PT (F.take k)) : Prop)) (fun zz : (Nat) × (Nat → Int) => match zz with | (k, q) => [(12, .a (.d (.s (.int .i64 (k : Nat)))))]) (fun zz : (Nat) × (Nat → Int) => match zz with | (k, q) => [(11, .flat false (grid .i64 q))]) (0, fun _ => 0) (⟨by omega, rfl⟩) ⟨rfl, trivial⟩ ⟨rfl, trivial⟩ ⟨(by (repeat' first | exact rfl | assumption | (with_reducible apply noPar_set) | ((with_reducible apply noPar_puto); exact rfl) | (with_reducible apply noPar_put) | (with_reducible apply noPar_putv) | (with_reducible apply noPar_putm) | (with_reducible apply noPar_kill) | ((with_reducible apply noPar_mix); exact rfl) | ((with_reducible apply noPar_mixT); exact rfl)); done), (by (repeat' first | exact rfl | assumption | (with_reducible apply noPar_set) | ((with_reducible apply noPar_puto); exact rfl) | (with_reducible apply noPar_put) | (with_reducible apply noPar_putv) | (with_reducible apply noPar_putm) | (with_reducible apply noPar_kill) | ((with_reducible apply noPar_mix); exact rfl) | ((with_reducible apply noPar_mixT); exact rfl)); done), (by (repeat' first | exact rfl | assumption | (with_reducible apply noPar_set) | ((with_reducible apply noPar_puto); exact rfl) | (with_reducible apply noPar_put) | (with_reducible apply noPar_putv) | (with_reducible apply noPar_putm) | (with_reducible apply noPar_kill) | ((with_reducible apply noPar_mix); exact rfl) | ((with_reducible apply noPar_mixT); exact rfl)); done), (by (repeat' first | exact rfl | assumption | (with_reducible apply noPar_set) | ((with_reducible apply noPar_puto); exact rfl) | (with_reducible apply noPar_put) | (with_reducible apply noPar_putv) | (with_reducible apply noPar_putm) | (with_reducible apply noPar_kill) | ((with_reducible apply noPar_mix); exact rfl) | ((with_reducible apply noPar_mixT); exact rfl)); done), trivial⟩ ?_)
      rintro ⟨k, q⟩ σ hP hN; dsimp only [setL, putL] at hP ⊢; obtain ⟨n13, hN⟩ := hN; obtain ⟨n16, hN⟩ := hN; obtain ⟨n18, hN⟩ := hN; obtain ⟨n2047, hN⟩ := hN
      obtain ⟨hk, hq⟩ := hP
      by_cases hkl : k < F.length
      · have hfm := gC_mem hkl
        have hst : F.take (k + 1) = F.take k ++ [gC F k] := by rw [List.take_add_one, gC_get hkl]; rfl
        have hn := hng _ hfm
        have hpl := hp.len _ hfm
        obtain ⟨q', hv'⟩ := hp.lv _ hfm
        have htl := totL_len (PT := PT) (F := F.take k) (fun f hf => (hp.len f (List.mem_of_mem_take hf)).2)
        rw [List.length_take] at htl
        have hts := totL_snoc PT (F.take k) (gC F k)
        rw [← hst] at hts
        have h9f := h9 _ hfm
        have hI := hI9 _ hfm
        generalize PT (gC F k) = pth at hn hpl hts hI
        repeat' first | ((with_reducible apply WH.c_aos (f := 22) (fn := Code.f22)); exact rfl; exact rfl; exact rfl; (first | exact rfl); (focus ((repeat' first | exact args_nil | apply args_d | exact toD_d rfl | exact rfl); done)); exact hn; (first | exact rfl | assumption | (focus ((repeat' first | exact rfl | assumption | (with_reducible apply noPar_set) | ((with_reducible apply noPar_puto); exact rfl) | (with_reducible apply noPar_kill)); done))); exact rfl; exact rfl) | ((with_reducible apply WR.mv); exact rfl; exact rfl) | ((with_reducible apply WH.mv); exact rfl; exact rfl; exact rfl) | ((with_reducible apply WH.mvt); exact rfl; exact rfl; exact rfl) | ((with_reducible apply WH.ld); exact rfl; exact rfl; exact rfl; (first | exact loadC_all (IsLawn.len (by assumption)) | exact loadC_all (IsLev.len (by assumption)) | exact ldC (by first | omega)); exact rfl) | ((with_reducible apply WH.isn); exact rfl; exact rfl; exact rfl; omega; exact rfl) | ((with_reducible apply WR.st); exact rfl; exact rfl; exact rfl; exact storeAll (by first | exact List.length_replicate .. | exact IsLev.len (by assumption) | assumption | exact rfl) (by first | exact List.length_replicate .. | exact IsLev.len (by assumption) | assumption | exact rfl)) | ((with_reducible apply WR.bu); exact rfl; exact rfl) | ((with_reducible apply WR.le); exact rfl; exact rfl) | ((with_reducible apply WR.al); exact rfl; (first | exact rfl | assumption | (focus ((repeat' first | exact rfl | assumption | (with_reducible apply noPar_set) | ((with_reducible apply noPar_puto); exact rfl) | (with_reducible apply noPar_kill)); done)))) | ((with_reducible apply WH.st); exact rfl; exact rfl; exact rfl; exact storeAll (by first | exact List.length_replicate .. | exact IsLev.len (by assumption) | assumption | exact rfl) (by first | exact List.length_replicate .. | exact IsLev.len (by assumption) | assumption | exact rfl); exact rfl; exact rfl) | ((with_reducible apply WR.lss); exact rfl; exact rfl; exact rfl) | ((with_reducible apply WR.nil)) | (with_reducible refine andThen_n ?_) | (with_reducible refine W.seq ?_) | (with_reducible refine W.region ?_) | (with_reducible refine W.skip ?_) | (with_reducible refine W.block ?_) | ((with_reducible apply W.condT); exact rfl) | ((with_reducible apply WH.ex); exact rfl; exact rfl; exact rfl) | ((with_reducible apply WH.nil)) | (with_reducible refine W.draw ?_) | (intro hb; try (exfalso; omega)) | ((with_reducible apply WH.al); exact rfl; (first | exact rfl | assumption | (focus ((repeat' first | exact rfl | assumption | (with_reducible apply noPar_set) | ((with_reducible apply noPar_puto); exact rfl) | (with_reducible apply noPar_kill)); done))); exact rfl; exact rfl)
        (refine (?_ : W _ (Code.loop _) _ _))
        (refine W.loopM [2, 3, 4, 6, 10, 11, 12, 14, 16] [3, 4, 6, 27, 2047] [13, 16, 18, 2047] (fun zz : (Nat) × (Nat → Int) × (Nat → Bool) => match zz with | (i, q, sn) => (pth.length - i : Nat)) (fun zz : (Nat) × (Nat → Int) × (Nat → Bool) => match zz with | (i, q, sn) => (i ≤ pth.length ∧ q = QF (totL PT (F.take k) ++ dd (pth.take i)) ∧ ∀ c, In9 c → (sn (kC c) = true ↔ c ∈ pth.take i) : Prop)) (fun zz : (Nat) × (Nat → Int) × (Nat → Bool) => match zz with | (i, q, sn) => [(17, .a (.d (.s (.int .i64 (i : Nat)))))]) (fun zz : (Nat) × (Nat → Int) × (Nat → Bool) => match zz with | (i, q, sn) => [(11, .flat false (grid .i64 q)), (16, .flat false (gridB sn))]) (0, q, fun _ => false) (⟨by omega, by rw [hq]; simp [dd], fun c _ => by simp⟩) ⟨rfl, trivial⟩ ⟨rfl, rfl, trivial⟩ ⟨(by (repeat' first | exact rfl | assumption | (with_reducible apply noPar_set) | ((with_reducible apply noPar_puto); exact rfl) | (with_reducible apply noPar_put) | (with_reducible apply noPar_putv) | (with_reducible apply noPar_putm) | (with_reducible apply noPar_kill) | ((with_reducible apply noPar_mix); exact rfl) | ((with_reducible apply noPar_mixT); exact rfl)); done), (by (repeat' first | exact rfl | assumption | (with_reducible apply noPar_set) | ((with_reducible apply noPar_puto); exact rfl) | (with_reducible apply noPar_put) | (with_reducible apply noPar_putv) | (with_reducible apply noPar_putm) | (with_reducible apply noPar_kill) | ((with_reducible apply noPar_mix); exact rfl) | ((with_reducible apply noPar_mixT); exact rfl)); done), (by (repeat' first | exact rfl | assumption | (with_reducible apply noPar_set) | ((with_reducible apply noPar_puto); exact rfl) | (with_reducible apply noPar_put) | (with_reducible apply noPar_putv) | (with_reducible apply noPar_putm) | (with_reducible apply noPar_kill) | ((with_reducible apply noPar_mix); exact rfl) | ((with_reducible apply noPar_mixT); exact rfl)); done), (by (repeat' first | exact rfl | assumption | (with_reducible apply noPar_set) | ((with_reducible apply noPar_puto); exact rfl) | (with_reducible apply noPar_put) | (with_reducible apply noPar_putv) | (with_reducible apply noPar_putm) | (with_reducible apply noPar_kill) | ((with_reducible apply noPar_mix); exact rfl) | ((with_reducible apply noPar_mixT); exact rfl)); done), trivial⟩ ?_)
        rintro ⟨i, q, sn⟩ σ hP hN; dsimp only [setL, putL] at hP ⊢; obtain ⟨n13, hN⟩ := hN; obtain ⟨n16, hN⟩ := hN; obtain ⟨n18, hN⟩ := hN; obtain ⟨n2047, hN⟩ := hN
        clear hq
        obtain ⟨hi, hq, hsn⟩ := hP
        by_cases hil : i < pth.length
        · have hsti : pth.take (i + 1) = pth.take i ++ [gC pth i] := by rw [List.take_add_one, gC_get hil]; rfl
          have hds := dd_snoc (pth.take i) (gC pth i)
          rw [← hsti] at hds
          have hI1 := hI _ (gC_mem hil)
          have hqb := QF_b _ (totL PT (F.take k) ++ dd (pth.take i)) rfl (10 * (gC pth i).2.toNat + (gC pth i).1.toNat)
          have hb2 := (dd_mem _ (pth.take i) rfl).2
          rw [← hq, List.length_append] at hqb
          rw [List.length_take] at hb2
          have hqb2 : 0 ≤ q (10 * (gC pth i).2.toNat + (gC pth i).1.toNat) ∧ q (10 * (gC pth i).2.toNat + (gC pth i).1.toNat) ≤ 10000 := by omega
          have hs1 := hsn _ hI1
          by_cases hmem : gC pth i ∈ pth.take i
          · have hs2 : sn (10 * (gC pth i).2.toNat + (gC pth i).1.toNat) = true := hs1.2 hmem
            rw [if_pos hmem] at hds
            repeat' first | ((with_reducible apply WR.mv); exact rfl; exact rfl) | ((with_reducible apply WH.mv); exact rfl; exact rfl; exact rfl) | ((with_reducible apply WH.ld); exact rfl; exact rfl; exact rfl; (first | exact ldCx (by first | omega) | exact ldCy (by first | omega) | exact ldGB (by omega)); exact rfl) | ((with_reducible apply WH.ia); exact rfl; exact rfl; exact rfl; omega; exact rfl) | ((with_reducible apply WH.fa); exact rfl; exact rfl; exact rfl) | ((with_reducible apply WH.isn); exact rfl; exact rfl; exact rfl; omega; exact rfl) | ((with_reducible apply WR.le); exact rfl; exact rfl) | ((with_reducible apply WR.lss); exact rfl; exact rfl; exact rfl) | ((with_reducible apply WR.nil)) | (with_reducible refine andThen_n ?_) | (with_reducible refine W.seq ?_) | (with_reducible refine W.region ?_) | (with_reducible refine W.skip ?_) | (with_reducible refine W.block ?_) | ((with_reducible apply W.condT); exact rfl) | ((with_reducible apply WH.nil)) | (with_reducible refine W.draw ?_) | (intro hb; try (exfalso; omega)) | ((with_reducible apply WH.un); exact rfl; exact rfl; exact rfl)
            refine W.condF (congrArg (fun b => V.a (A.d (D.s (S.bool (!b))))) hs2) ?_
            repeat' first | ((with_reducible apply WR.mv); exact rfl; exact rfl) | ((with_reducible apply WR.ad); exact rfl; exact rfl; exact rfl; (first | exact i64_in _ (by omega))) | ((with_reducible apply WR.nil)) | (with_reducible refine andThen_n ?_) | (with_reducible refine inB_n ?_) | (with_reducible refine W.region ?_) | (with_reducible refine W.skip ?_)
            (refine W.nxt ((i + 1, q, sn)) (by first | omega | (dsimp only; omega)) ?_ ⟨rfl, trivial⟩ ⟨rfl, rfl, trivial⟩ ⟨rfl, rfl, rfl, rfl, rfl, rfl, rfl, rfl, rfl, trivial⟩ ⟨rfl, rfl, rfl, rfl, rfl, trivial⟩ ⟨(by (repeat' first | exact rfl | assumption | (with_reducible apply noPar_set) | ((with_reducible apply noPar_puto); exact rfl) | (with_reducible apply noPar_put) | (with_reducible apply noPar_putv) | (with_reducible apply noPar_putm) | (with_reducible apply noPar_kill) | ((with_reducible apply noPar_mix); exact rfl) | ((with_reducible apply noPar_mixT); exact rfl)); done), (by (repeat' first | exact rfl | assumption | (with_reducible apply noPar_set) | ((with_reducible apply noPar_puto); exact rfl) | (with_reducible apply noPar_put) | (with_reducible apply noPar_putv) | (with_reducible apply noPar_putm) | (with_reducible apply noPar_kill) | ((with_reducible apply noPar_mix); exact rfl) | ((with_reducible apply noPar_mixT); exact rfl)); done), (by (repeat' first | exact rfl | assumption | (with_reducible apply noPar_set) | ((with_reducible apply noPar_puto); exact rfl) | (with_reducible apply noPar_put) | (with_reducible apply noPar_putv) | (with_reducible apply noPar_putm) | (with_reducible apply noPar_kill) | ((with_reducible apply noPar_mix); exact rfl) | ((with_reducible apply noPar_mixT); exact rfl)); done), (by (repeat' first | exact rfl | assumption | (with_reducible apply noPar_set) | ((with_reducible apply noPar_puto); exact rfl) | (with_reducible apply noPar_put) | (with_reducible apply noPar_putv) | (with_reducible apply noPar_putm) | (with_reducible apply noPar_kill) | ((with_reducible apply noPar_mix); exact rfl) | ((with_reducible apply noPar_mixT); exact rfl)); done), trivial⟩); (try dsimp only)
            refine ⟨by omega, by rw [hq, hds], fun c hc => ?_⟩
            rw [hsn c hc, hsti, List.mem_append, List.mem_singleton]
            exact ⟨.inl, fun hh => hh.elim id fun e => e ▸ hmem⟩
          · have hs2 : sn (10 * (gC pth i).2.toNat + (gC pth i).1.toNat) = false := by
              cases hv : sn (10 * (gC pth i).2.toNat + (gC pth i).1.toNat) with
              | false => rfl
              | true => exact absurd (hs1.1 hv) hmem
            rw [if_neg hmem] at hds
            repeat' first | ((with_reducible apply WR.mv); exact rfl; exact rfl) | ((with_reducible apply WH.mv); exact rfl; exact rfl; exact rfl) | ((with_reducible apply WH.ld); exact rfl; exact rfl; exact rfl; (first | exact ldCx (by first | omega) | exact ldCy (by first | omega) | exact ldGB (by omega)); exact rfl) | ((with_reducible apply WH.ia); exact rfl; exact rfl; exact rfl; omega; exact rfl) | ((with_reducible apply WH.fa); exact rfl; exact rfl; exact rfl) | ((with_reducible apply WH.isn); exact rfl; exact rfl; exact rfl; omega; exact rfl) | ((with_reducible apply WR.le); exact rfl; exact rfl) | ((with_reducible apply WR.lss); exact rfl; exact rfl; exact rfl) | ((with_reducible apply WR.nil)) | (with_reducible refine andThen_n ?_) | (with_reducible refine W.seq ?_) | (with_reducible refine W.region ?_) | (with_reducible refine W.skip ?_) | (with_reducible refine W.block ?_) | ((with_reducible apply W.condT); exact rfl) | ((with_reducible apply WH.nil)) | (with_reducible refine W.draw ?_) | (intro hb; try (exfalso; omega)) | ((with_reducible apply WH.un); exact rfl; exact rfl; exact rfl)
            refine W.condT (congrArg (fun b => V.a (A.d (D.s (S.bool (!b))))) hs2) ?_
            repeat' first | ((with_reducible apply WR.mv); exact rfl; exact rfl) | ((with_reducible apply WH.mv); exact rfl; exact rfl; exact rfl) | ((with_reducible apply WH.ld); exact rfl; exact rfl; exact rfl; (first | exact ldCx (by first | omega) | exact ldCy (by first | omega) | exact ldG (by omega)); exact rfl) | ((with_reducible apply WH.ia); exact rfl; exact rfl; exact rfl; omega; exact rfl) | ((with_reducible apply WH.fa); exact rfl; exact rfl; exact rfl) | ((with_reducible apply WH.isn); exact rfl; exact rfl; exact rfl; omega; exact rfl) | ((with_reducible apply WH.st); exact rfl; exact rfl; exact rfl; exact stG (by omega); exact rfl; exact rfl) | ((with_reducible apply WH.st); exact rfl; exact rfl; exact rfl; exact stGB (by omega); exact rfl; exact rfl) | ((with_reducible apply WR.ad); exact rfl; exact rfl; exact rfl; (first | exact i64_in _ (by omega))) | ((with_reducible apply WR.nil)) | (with_reducible refine andThen_n ?_) | (with_reducible refine inB_n ?_) | (with_reducible refine W.seq ?_) | (with_reducible refine W.region ?_) | ((with_reducible apply WH.nil)) | (with_reducible refine W.draw ?_) | ((with_reducible apply WH.ad); exact rfl; exact rfl; exact rfl; (first | exact i64_in _ (by omega)))
            (refine W.nxt ((i + 1, gset q (10 * (gC pth i).2.toNat + (gC pth i).1.toNat) (q (10 * (gC pth i).2.toNat + (gC pth i).1.toNat) + 1), gset sn (10 * (gC pth i).2.toNat + (gC pth i).1.toNat) true)) (by first | omega | (dsimp only; omega)) ?_ ⟨rfl, trivial⟩ ⟨rfl, rfl, trivial⟩ ⟨rfl, rfl, rfl, rfl, rfl, rfl, rfl, rfl, rfl, trivial⟩ ⟨rfl, rfl, rfl, rfl, rfl, trivial⟩ ⟨(by (repeat' first | exact rfl | assumption | (with_reducible apply noPar_set) | ((with_reducible apply noPar_puto); exact rfl) | (with_reducible apply noPar_put) | (with_reducible apply noPar_putv) | (with_reducible apply noPar_putm) | (with_reducible apply noPar_kill) | ((with_reducible apply noPar_mix); exact rfl) | ((with_reducible apply noPar_mixT); exact rfl)); done), (by (repeat' first | exact rfl | assumption | (with_reducible apply noPar_set) | ((with_reducible apply noPar_puto); exact rfl) | (with_reducible apply noPar_put) | (with_reducible apply noPar_putv) | (with_reducible apply noPar_putm) | (with_reducible apply noPar_kill) | ((with_reducible apply noPar_mix); exact rfl) | ((with_reducible apply noPar_mixT); exact rfl)); done), (by (repeat' first | exact rfl | assumption | (with_reducible apply noPar_set) | ((with_reducible apply noPar_puto); exact rfl) | (with_reducible apply noPar_put) | (with_reducible apply noPar_putv) | (with_reducible apply noPar_putm) | (with_reducible apply noPar_kill) | ((with_reducible apply noPar_mix); exact rfl) | ((with_reducible apply noPar_mixT); exact rfl)); done), (by (repeat' first | exact rfl | assumption | (with_reducible apply noPar_set) | ((with_reducible apply noPar_puto); exact rfl) | (with_reducible apply noPar_put) | (with_reducible apply noPar_putv) | (with_reducible apply noPar_putm) | (with_reducible apply noPar_kill) | ((with_reducible apply noPar_mix); exact rfl) | ((with_reducible apply noPar_mixT); exact rfl)); done), trivial⟩); (try dsimp only)
            refine ⟨by omega, ?_, fun c hc => ?_⟩
            · rw [hds, ← List.append_assoc, QF_snoc, ← hq]; rfl
            · rw [hsti, List.mem_append, List.mem_singleton]
              show gset sn (kC (gC pth i)) true (kC c) = true ↔ _
              unfold gset
              by_cases e : kC c = kC (gC pth i)
              · rw [if_pos e]
                exact ⟨fun _ => .inr (kC_inj hc hI1 e), fun _ => rfl⟩
              · rw [if_neg e, hsn c hc]
                exact ⟨.inl, fun hh => hh.elim id fun e2 => (e (by rw [e2])).elim⟩
        · obtain rfl : i = pth.length := by omega
          rw [List.take_of_length_le (l := pth) (Nat.le_refl _), ← hts] at hq
          repeat' first | ((with_reducible apply WR.mv); exact rfl; exact rfl) | ((with_reducible apply WR.le); exact rfl; exact rfl) | ((with_reducible apply WR.lss); exact rfl; exact rfl; exact rfl) | ((with_reducible apply WR.ad); exact rfl; exact rfl; exact rfl; (first | exact i64_in _ (by omega))) | ((with_reducible apply WR.nil)) | (with_reducible refine andThen_n ?_) | (with_reducible refine andThen_x ?_) | (with_reducible refine inB_n ?_) | (with_reducible refine inB_x ?_) | (with_reducible refine W.seq ?_) | (with_reducible refine W.region ?_) | (with_reducible refine W.exit ?_) | ((with_reducible apply W.condF); exact rfl) | (intro hb; try (exfalso; omega))
          (refine W.nxt ((k + 1, q)) (by first | omega | (dsimp only; omega)) ?_ ⟨rfl, trivial⟩ ⟨rfl, trivial⟩ ⟨rfl, rfl, rfl, rfl, rfl, rfl, trivial⟩ ⟨rfl, rfl, rfl, rfl, trivial⟩ ⟨(by (repeat' first | exact rfl | assumption | (with_reducible apply noPar_set) | ((with_reducible apply noPar_puto); exact rfl) | (with_reducible apply noPar_put) | (with_reducible apply noPar_putv) | (with_reducible apply noPar_putm) | (with_reducible apply noPar_kill) | ((with_reducible apply noPar_mix); exact rfl) | ((with_reducible apply noPar_mixT); exact rfl)); done), (by (repeat' first | exact rfl | assumption | (with_reducible apply noPar_set) | ((with_reducible apply noPar_puto); exact rfl) | (with_reducible apply noPar_put) | (with_reducible apply noPar_putv) | (with_reducible apply noPar_putm) | (with_reducible apply noPar_kill) | ((with_reducible apply noPar_mix); exact rfl) | ((with_reducible apply noPar_mixT); exact rfl)); done), (by (repeat' first | exact rfl | assumption | (with_reducible apply noPar_set) | ((with_reducible apply noPar_puto); exact rfl) | (with_reducible apply noPar_put) | (with_reducible apply noPar_putv) | (with_reducible apply noPar_putm) | (with_reducible apply noPar_kill) | ((with_reducible apply noPar_mix); exact rfl) | ((with_reducible apply noPar_mixT); exact rfl)); done), (by (repeat' first | exact rfl | assumption | (with_reducible apply noPar_set) | ((with_reducible apply noPar_puto); exact rfl) | (with_reducible apply noPar_put) | (with_reducible apply noPar_putv) | (with_reducible apply noPar_putm) | (with_reducible apply noPar_kill) | ((with_reducible apply noPar_mix); exact rfl) | ((with_reducible apply noPar_mixT); exact rfl)); done), trivial⟩); (try dsimp only)
          exact ⟨by omega, hq⟩
      · obtain rfl : k = F.length := by omega
        rw [List.take_of_length_le (by omega)] at hq
        have hLI : ∀ d ∈ totL PT F, In9 d := fun d hd => by
          obtain ⟨f, hf, hdf⟩ := totL_mem.1 hd
          exact hI9 f hf d hdf
        have hmg : mostF (fun c => q (kC c)) F = bestB PT F := by rw [hq]; exact most_grid hLI h9
        have hpos : ∀ f ∈ F, 0 < q (kC f) := fun f hf => by
          rw [hq, QF_cnt _ _ rfl hLI f (h9 f hf)]
          have := cntL_pos (totL_mem.2 ⟨f, hf, hp.hd f hf⟩)
          omega
        rw [← hmg]
        clear hmg hq hng hp hLI
        have hm0 := gC_mem (l := F) (k := 0) hFp
        have h90 := h9 _ hm0
        have hp0 := hpos _ hm0
        have hst0 : F.take 1 = [gC F 0] := by
          have := List.take_add_one (l := F) (i := 0)
          rw [gC_get hFp] at this; simpa using this
        have hf0 : mostF (fun c => q (kC c)) (F.take 1) = (gC F 0, q (kC (gC F 0))) := by
          rw [hst0]
          show (if (0 : Int) < q (kC (gC F 0)) then (gC F 0, q (kC (gC F 0))) else ((0, 0), 0)) = _
          rw [if_pos hp0]
        repeat' first | ((with_reducible apply WR.mv); exact rfl; exact rfl) | ((with_reducible apply WR.st); exact rfl; exact rfl; exact rfl; exact st2) | ((with_reducible apply WR.le); exact rfl; exact rfl) | ((with_reducible apply WR.al); exact rfl; (first | assumption)) | ((with_reducible apply WR.lss); exact rfl; exact rfl; exact rfl) | ((with_reducible apply WR.nil)) | (with_reducible refine andThen_n ?_) | (with_reducible refine andThen_x ?_) | (with_reducible refine inB_x ?_) | (with_reducible refine W.seq ?_) | (with_reducible refine W.region ?_) | (with_reducible refine W.exit ?_) | (with_reducible refine W.block ?_) | ((with_reducible apply W.condF); exact rfl) | (intro hb; try (exfalso; omega)) | ((with_reducible apply WR.isn); exact rfl; exact rfl; exact rfl; omega) | ((with_reducible apply WR.ld); exact rfl; exact rfl; exact rfl; (first | exact ldC (by first | omega)))
        (refine (?_ : W _ (Code.loop _) _ _))
        (refine W.loopM [6, 10, 11, 18] [6, 11, 27] [] (fun zz : (Nat) × (Int) × (Int) => match zz with | (i, x, y) => (F.length - i : Nat)) (fun zz : (Nat) × (Int) × (Int) => match zz with | (i, x, y) => (1 ≤ i ∧ i ≤ F.length ∧ In9 (x, y) ∧ mostF (fun c => q (kC c)) (F.take i) = ((x, y), q (kC (x, y))) : Prop)) (fun zz : (Nat) × (Int) × (Int) => match zz with | (i, x, y) => [(19, .a (.d (.s (.int .i64 (i : Nat)))))]) (fun zz : (Nat) × (Int) × (Int) => match zz with | (i, x, y) => [(18, .flat false ([.int .i8 x, .int .i8 y]))]) (1, (gC F 0).1, (gC F 0).2) (⟨by omega, by omega, h90, hf0⟩) ⟨rfl, trivial⟩ ⟨rfl, trivial⟩ trivial ?_)
        rintro ⟨i, x, y⟩ σ hP hN; dsimp only [setL, putL] at hP ⊢
        obtain ⟨hi1, hi, hxy, hf⟩ := hP
        have hxy' : 0 ≤ x ∧ x < 10 ∧ 0 ≤ y ∧ y < 10 := hxy
        by_cases hil : i < F.length
        · have hst : F.take (i + 1) = F.take i ++ [gC F i] := by rw [List.take_add_one, gC_get hil]; rfl
          have hsn := mostF_snoc (fun c => q (kC c)) (F.take i) (gC F i)
          rw [← hst, hf] at hsn
          have h9i := h9 _ (gC_mem hil)
          repeat' first | ((with_reducible apply WR.mv); exact rfl; exact rfl) | ((with_reducible apply WH.mv); exact rfl; exact rfl; exact rfl) | ((with_reducible apply WH.ld); exact rfl; exact rfl; exact rfl; (first | exact ldC (by first | omega) | exact ldCx (by first | omega) | exact ldCy (by first | omega) | exact ldG (by omega)); exact rfl) | ((with_reducible apply WH.lx); exact rfl; exact rfl; exact rfl) | ((with_reducible apply WH.ia); exact rfl; exact rfl; exact rfl; omega; exact rfl) | ((with_reducible apply WH.fa); exact rfl; exact rfl; exact rfl) | ((with_reducible apply WH.isn); exact rfl; exact rfl; exact rfl; omega; exact rfl) | ((with_reducible apply WR.st); exact rfl; exact rfl; exact rfl; exact st2) | ((with_reducible apply WR.le); exact rfl; exact rfl) | ((with_reducible apply WR.lss); exact rfl; exact rfl; exact rfl) | ((with_reducible apply WR.ad); exact rfl; exact rfl; exact rfl; (first | exact i64_in _ (by omega))) | ((with_reducible apply WR.nil)) | (with_reducible refine andThen_n ?_) | (with_reducible refine inB_n ?_) | (with_reducible refine W.seq ?_) | (with_reducible refine W.region ?_) | (with_reducible refine W.skip ?_) | (with_reducible refine W.block ?_) | ((with_reducible apply W.condT); exact rfl) | ((with_reducible apply W.condF); exact rfl) | ((with_reducible apply WH.nil)) | (with_reducible refine W.draw ?_) | (intro hb; try (exfalso; omega)) | ((with_reducible apply WR.isn); exact rfl; exact rfl; exact rfl; omega) | ((with_reducible apply WR.ld); exact rfl; exact rfl; exact rfl; (first | exact ldC (by first | omega) | exact ldCx (by first | omega) | exact ldCy (by first | omega) | exact ldG (by omega))) | ((with_reducible apply WH.gtr); exact rfl; exact rfl; exact rfl)
          · (refine W.nxt ((i + 1, (gC F i).1, (gC F i).2)) (by first | omega | (dsimp only; omega)) ?_ ⟨rfl, trivial⟩ ⟨rfl, trivial⟩ ⟨rfl, rfl, rfl, rfl, trivial⟩ ⟨rfl, rfl, rfl, trivial⟩ trivial); (try dsimp only)
            refine ⟨by omega, by omega, h9i, ?_⟩
            rw [hsn]
            exact if_pos (by assumption)
          · (refine W.nxt ((i + 1, x, y)) (by first | omega | (dsimp only; omega)) ?_ ⟨rfl, trivial⟩ ⟨rfl, trivial⟩ ⟨rfl, rfl, rfl, rfl, trivial⟩ ⟨rfl, rfl, rfl, trivial⟩ trivial); (try dsimp only)
            refine ⟨by omega, by omega, hxy, ?_⟩
            rw [hsn]
            exact if_neg (by assumption)
        · obtain rfl : i = F.length := by omega
          rw [List.take_of_length_le (by omega)] at hf
          rw [hf]
          repeat' first | ((with_reducible apply WR.mv); exact rfl; exact rfl) | ((with_reducible apply WH.mv); exact rfl; exact rfl; exact rfl) | ((with_reducible apply WH.ld); exact rfl; exact rfl; exact rfl; (first | exact ld2 | exact ldG (by omega)); exact rfl) | ((with_reducible apply WH.lx); exact rfl; exact rfl; exact rfl) | ((with_reducible apply WH.ia); exact rfl; exact rfl; exact rfl; omega; exact rfl) | ((with_reducible apply WH.fa); exact rfl; exact rfl; exact rfl) | ((with_reducible apply WR.le); exact rfl; exact rfl) | ((with_reducible apply WH.st); exact rfl; exact rfl; exact rfl; exact st2; exact rfl; exact rfl) | ((with_reducible apply WR.lss); exact rfl; exact rfl; exact rfl) | ((with_reducible apply WR.nil)) | (with_reducible refine andThen_n ?_) | (with_reducible refine andThen_x ?_) | (with_reducible refine inB_x ?_) | (with_reducible refine W.seq ?_) | (with_reducible refine W.region ?_) | (with_reducible refine W.ret ?_) | (with_reducible refine W.exit ?_) | ((with_reducible apply W.condF); exact rfl) | ((with_reducible apply Done.f); (intro hh hh2; exact (nomatch hh2)); (focus ((repeat' first | exact all_nil | apply all_cons | exact res_tmp rfl | exact res_cell rfl rfl (by first | exact rfl) | exact rfl); done)); (focus ((repeat' first | exact all_nil | apply all_cons | exact retOf_s rfl | exact retOf_a rfl | exact rfl); done)); exact rfl; (focus ((repeat' first | exact outs_nil | apply outs_d | exact rfl); done))) | ((with_reducible apply WH.nil)) | (with_reducible refine W.draw ?_) | (intro hb; try (exfalso; omega))
          rfl
  · rw [btRes, if_neg hc]
    refine Gives.by rfl rfl (W.seq ?_)
    repeat' first | ((with_reducible apply WR.c_s (f := 52) (fn := Code.f52)); exact rfl; exact rfl; exact rfl; (first | exact rfl); (focus ((repeat' first | exact args_nil | apply args_d | exact toD_d rfl | exact toD_ptr rfl rfl | exact all_nil | apply all_cons | exact rfl); done)); exact hnt) | ((with_reducible apply WR.c_s (f := 206) (fn := Code.f206)); exact rfl; exact rfl; exact rfl; (first | exact rfl); (focus ((repeat' first | exact args_nil | apply args_d | exact toD_d rfl | exact toD_ptr rfl rfl | exact all_nil | apply all_cons | exact rfl); done)); exact hmc) | ((with_reducible apply WR.mv); exact rfl; exact rfl) | ((with_reducible apply WR.st); exact rfl; exact rfl; exact rfl; exact st2) | ((with_reducible apply WR.bu); exact rfl; exact rfl) | ((with_reducible apply WR.al); exact rfl; (first | exact rfl)) | ((with_reducible apply WR.nil)) | (with_reducible refine andThen_n ?_) | (with_reducible refine andThen_r ?_) | (with_reducible refine W.seq ?_) | (with_reducible refine W.region ?_) | (with_reducible refine W.ret ?_) | ((with_reducible apply W.condT); exact rfl) | ((with_reducible apply Done.f); (intro hh hh2; exact (nomatch hh2)); (focus ((repeat' first | exact all_nil | apply all_cons | exact res_tmp rfl | exact res_cell rfl rfl (by first | exact IsLev.len (by assumption) | exact IsLawn.len (by assumption) | exact rfl) | exact rfl); done)); (focus ((repeat' first | exact all_nil | apply all_cons | exact retOf_s rfl | exact retOf_a rfl | exact rfl); done)); exact rfl; (focus ((repeat' first | exact outs_nil | apply outs_d | exact rfl); done))) | (intro hb; try (exfalso; omega)) | ((with_reducible apply WR.bx); exact rfl; exact rfl; exact (by first | exact IsLev.len (by assumption) | exact IsLawn.len (by assumption) | exact rfl); (first | exact rfl)) | ((with_reducible apply WR.neq); exact rfl; exact rfl; exact rfl)
    all_goals first
      | (exfalso; omega)
      | (exfalso; exact hc (by assumption))
      | rfl
theorem law_BestTrap (l : IsLawn w h g cs) (v : IsLev q qs) (n : Int) : Gives G 193 [aa cs, aa qs, ai .i64 n] ⟨[.s (.bool true)], []⟩ := by
  let PT : Cel → List Cel := fun f => (Mole.mk q qs f f).path w h g n.toNat
  let LV : Cel → List S := fun f => ((Mole.mk q qs f f).after w h g n.toNat).qs
  have key : trapCode w h g q n = 0 → ∀ f ∈ ofKind w h g 0, molesCode w h g q f n = 0 := fun hc f hf => by
    unfold trapCode at hc
    split at hc
    · rename_i hL
      split at hc
      · rename_i hn
        have hf2 := List.mem_filter.1 hf
        have hh := allC_mem hf2.1
        have hg : g (ix f) = 0 := by simpa using hf2.2
        exact belowCode_zero.2 ⟨hL, ⟨hn, hh⟩, ⟨hh, hg⟩⟩
      · cases hc
    · cases hc
  have hp : trapCode w h g q n = 0 → Paths w h g (ofKind w h g 0) PT LV := fun hc => by
    refine ⟨fun f hf => ?_, fun f hf => ?_, fun f hf => ?_, fun f hf => ?_⟩
    all_goals obtain ⟨hs, hn, ha, k0⟩ := moles_ok v (key hc f hf)
    · have := (Mole.mk q qs f f).path_length (w := w) (h := h) (g := g) n.toNat
      show 1 ≤ ((Mole.mk q qs f f).path w h g n.toNat).length ∧ _
      rw [this]; omega
    · exact path_is (m := Mole.mk q qs f f) (belowCode_zero.1 (key hc f hf)).2.2 n.toNat
    · exact path_head (Mole.mk q qs f f) n.toNat
    · exact ⟨_, (k0.after hs n.toNat).v⟩
  have h1 := trapS_gives l v n (PT := PT) (LV := LV) hp (fun hc f hf => by
    obtain ⟨hs, hn, ha, k0⟩ := moles_ok v (key hc f hf)
    have h := moleNightsS_gives l v f n (by omega)
    rw [molesRes, if_pos (key hc f hf)] at h
    exact h)
  have h2 := trapP_gives l v n (PT := PT) (LV := LV) hp (fun hc f hf => by
    obtain ⟨hs, hn, ha, k0⟩ := moles_ok v (key hc f hf)
    have h := nights_gives l hs v f ha n.toNat (by omega)
    rw [show ((n.toNat : Nat) : Int) = n by omega] at h
    exact h)
  have e : ∃ x y m c, btRes (trapCode w h g q n) PT (ofKind w h g 0) = ⟨[.agg [.int .i8 x, .int .i8 y], .s (.int .i64 m), .s (.int .i64 c)], []⟩ := by
    unfold btRes
    split
    · split <;> exact ⟨_, _, _, _, rfl⟩
    · exact ⟨_, _, _, _, rfl⟩
  obtain ⟨x, y, m, c, e⟩ := e
  rw [e] at h1 h2
  clear e hp key
  clear_value PT LV
  refine Gives.by rfl rfl (W.seq ?_)
  repeat' first | ((with_reducible apply WH.c_ass (f := 200) (fn := Code.f200)); exact rfl; exact rfl; exact rfl; (first | exact rfl); (focus ((repeat' first | exact args_nil | apply args_d | exact toD_d rfl | exact all_nil | apply all_cons | exact rfl); done)); exact h1; exact rfl) | ((with_reducible apply WH.c_ass (f := 201) (fn := Code.f201)); exact rfl; exact rfl; exact rfl; (first | exact rfl); (focus ((repeat' first | exact args_nil | apply args_d | exact toD_d rfl | exact all_nil | apply all_cons | exact rfl); done)); exact h2; exact rfl) | ((with_reducible apply WH.c_a (f := 9) (fn := Code.f9)); exact rfl; exact rfl; exact rfl; (first | exact rfl); (focus ((repeat' first | exact args_nil | apply args_d | exact toD_d rfl | exact all_nil | apply all_cons | exact rfl); done)); exact toLawn_gives (by assumption); exact rfl) | ((with_reducible apply WH.c_a (f := 10) (fn := Code.f10)); exact rfl; exact rfl; exact rfl; (first | exact rfl); (focus ((repeat' first | exact args_nil | apply args_d | exact toD_d rfl | exact all_nil | apply all_cons | exact rfl); done)); exact toLevels_gives (IsLev.len (by assumption)); exact rfl) | ((with_reducible apply WR.c_p (f := 161) (fn := Code.f161)); exact rfl; exact rfl; exact rfl; (first | exact rfl); (focus ((repeat' first | exact args_nil | apply args_d | exact toD_d rfl | exact all_nil | apply all_cons | exact rfl); done)); exact eqCell_gives _ _ _ _) | ((with_reducible apply WR.mv); exact rfl; exact rfl) | ((with_reducible apply WH.mv); exact rfl; exact rfl; exact rfl) | ((with_reducible apply WH.mvt); exact rfl; exact rfl; exact rfl) | ((with_reducible apply WH.ex); exact rfl; exact rfl; exact rfl) | ((with_reducible apply WH.ld); exact rfl; exact rfl; exact rfl; (first | exact ld2 | exact loadC_all (IsLawn.len (by assumption)) | exact loadC_all (IsLev.len (by assumption))); exact rfl) | ((with_reducible apply WR.nil)) | (with_reducible refine andThen_n ?_) | (with_reducible refine W.seq ?_) | (with_reducible refine W.region ?_) | (with_reducible refine W.skip ?_) | (with_reducible refine W.ret ?_) | ((with_reducible apply W.condF); exact rfl) | ((with_reducible apply Done.f); (intro hh hh2; exact (nomatch hh2)); (focus ((repeat' first | exact all_nil | apply all_cons | exact res_tmp rfl | exact rfl); done)); (focus ((repeat' first | exact all_nil | apply all_cons | exact retOf_s rfl | exact rfl); done)); exact rfl; (focus ((repeat' first | exact outs_nil | apply outs_d | exact rfl); done))) | ((with_reducible apply WH.nil)) | (with_reducible refine W.draw ?_) | (intro hb; try (exfalso; omega)) | ((with_reducible apply WR.neq); exact rfl; exact rfl; exact rfl) | ((with_reducible apply WR.bx); exact rfl; exact rfl; exact (by first | exact IsLev.len (by assumption) | exact IsLawn.len (by assumption) | exact rfl); (first | exact rfl)) | ((with_reducible apply WR.ld); exact rfl; exact rfl; exact rfl; (first | exact ld2 | exact loadC_all (IsLawn.len (by assumption)) | exact loadC_all (IsLev.len (by assumption)))) | ((with_reducible apply WR.pk); exact rfl; exact rfl) | ((with_reducible apply WH.al); exact rfl; (first | exact rfl); exact rfl; exact rfl) | ((with_reducible apply WH.st); exact rfl; exact rfl; exact rfl; exact st2; exact rfl; exact rfl) | ((with_reducible apply WR.un); exact rfl; exact rfl)
  all_goals first
    | (exfalso; simp_all; done)
    | rfl
end Go.DM
