/- The best trap: the program's side. -/
import Derived.Test.YtaocbbdkiemhaaaK356Trap
set_option linter.unusedSimpArgs false
set_option linter.unusedVariables false
set_option maxHeartbeats 4000000
namespace Go.DM
set_option linter.unusedSectionVars false
variable [Tok]
open Go.IntWalk
variable {w h : Int} {g : Nat → Int} {cs : List S} {q : Nat → Int} {qs : List S}
/-- The cells that are counted. -/
def totL (PT : Cel → List Cel) (F : List Cel) : List Cel := F.flatMap fun f => dd (PT f)
theorem totL_snoc (PT : Cel → List Cel) (F : List Cel) (f : Cel) : totL PT (F ++ [f]) = totL PT F ++ dd (PT f) := by simp [totL]
theorem totL_len {PT : Cel → List Cel} : ∀ {F : List Cel}, (∀ f ∈ F, (PT f).length ≤ 61) → (totL PT F).length ≤ 61 * F.length
  | [], _ => Nat.zero_le _
  | f :: r, h => by
    have ih := totL_len (PT := PT) (F := r) fun d hd => h d (List.mem_cons_of_mem _ hd)
    have h1 := (dd_mem _ (PT f) rfl).2
    have h2 := h f (List.mem_cons_self ..)
    have e : totL PT (f :: r) = dd (PT f) ++ totL PT r := by simp [totL]
    rw [e, List.length_append, List.length_cons]; omega
theorem totL_mem {PT : Cel → List Cel} {F : List Cel} {c : Cel} : c ∈ totL PT F ↔ ∃ f ∈ F, c ∈ PT f := by
  unfold totL
  rw [List.mem_flatMap]
  constructor
  · rintro ⟨f, h1, h2⟩; exact ⟨f, h1, ((dd_mem _ (PT f) rfl).1 c).1 h2⟩
  · rintro ⟨f, h1, h2⟩; exact ⟨f, h1, ((dd_mem _ (PT f) rfl).1 c).2 h2⟩
/-- What is needed of the paths. -/
structure Paths (w h : Int) (g : Nat → Int) (F : List Cel) (PT : Cel → List Cel) (LV : Cel → List S) : Prop where
  len : ∀ f ∈ F, 1 ≤ (PT f).length ∧ (PT f).length ≤ 61
  is : ∀ f ∈ F, ∀ c ∈ PT f, Is w h g 0 c.1 c.2
  hd : ∀ f ∈ F, f ∈ PT f
  lv : ∀ f ∈ F, ∃ q', IsLev q' (LV f)
def bestB (PT : Cel → List Cel) (F : List Cel) : Cel × Int := mostF (cntL (totL PT F)) F
theorem best_all {PT : Cel → List Cel} {LV : Cel → List S} {F A : List Cel} (hp : Paths w h g F PT LV) (hF : F = A.filter fun c => decide (g (ix c) = 0)) (hA : ∀ c ∈ A, Has w h c.1 c.2) : mostF (cntL (totL PT F)) A = bestB PT F := by
  have h := mostF_filter (f := cntL (totL PT F)) (p := fun c => decide (g (ix c) = 0)) (A := A) (fun c hc hn => by
    rw [cntL_zero]
    · exact Int.le_refl _
    · intro hm
      obtain ⟨f, hf, hcf⟩ := totL_mem.1 hm
      have := hp.is f hf c hcf
      have e : g (ix c) = 0 := this.2
      simp [e] at hn)
  rw [h, bestB, ← hF]
theorem best_pos {PT : Cel → List Cel} {LV : Cel → List S} {F : List Cel} (hp : Paths w h g F PT LV) (hne : F ≠ []) : 1 ≤ (bestB PT F).2 := by
  obtain ⟨f, r, rfl⟩ := List.exists_cons_of_ne_nil hne
  have h1 := mostF_ge (cntL (totL PT (f :: r))) _ (f :: r) rfl f (List.mem_cons_self ..)
  have h2 : 1 ≤ cntL (totL PT (f :: r)) f := cntL_pos (totL_mem.2 ⟨f, List.mem_cons_self .., hp.hd f (List.mem_cons_self ..)⟩)
  unfold bestB; omega
def btRes (code : Int) (PT : Cel → List Cel) (F : List Cel) : Res :=
  if code = 0 then (if F = [] then ⟨[.agg [.int .i8 0, .int .i8 0], .s (.int .i64 0), .s (.int .i64 6)], []⟩ else ⟨[.agg [.int .i8 (bestB PT F).1.1, .int .i8 (bestB PT F).1.2], .s (.int .i64 (bestB PT F).2), .s (.int .i64 0)], []⟩)
  else ⟨[.agg [.int .i8 0, .int .i8 0], .s (.int .i64 0), .s (.int .i64 code)], []⟩
/-- The nights from each cell, as the program tells them. -/
def NightsP (cs qs : List S) (n : Int) (F : List Cel) (PT : Cel → List Cel) (LV : Cel → List S) : Prop :=
  ∀ f ∈ F, Gives G 26 [aa cs, aa qs, ac f.1 f.2, ai .i64 n] ⟨[.agg (LV f), .own (PT f).length 2 (encC (PT f))], []⟩
theorem trapP_gives (l : IsLawn w h g cs) (v : IsLev q qs) (n : Int) {PT : Cel → List Cel} {LV : Cel → List S} (hp : trapCode w h g q n = 0 → Paths w h g (ofKind w h g 0) PT LV)
    (hng : trapCode w h g q n = 0 → NightsP cs qs n (ofKind w h g 0) PT LV) :
    Gives G 201 [aa cs, aa qs, ai .i64 n] (btRes (trapCode w h g q n) PT (ofKind w h g 0)) := by
  have hmc := moleCode0_gives l v n
  by_cases hc : trapCode w h g q n = 0
  · have hLv : LevOk w h g q := by
      unfold trapCode at hc
      split at hc
      · assumption
      · cases hc
    have hz := hLv.1.1; have hz2 := hLv.1.2.1
    have hp := hp hc
    have hng := hng hc
    rw [hc] at hmc
    have hth := those_gives l (by omega) (holds_grass l (by omega)) (fun _ _ => trivial)
    rw [those_grass] at hth
    have hal := allC_len (w := w) (h := h) (by omega)
    have hmo := fun M => mostOf_gives l (by omega) M
    have hba := best_all hp rfl (fun c hc => allC_mem hc)
    have hbp := best_pos hp
    have hFl : (ofKind w h g 0).length ≤ 100 := Nat.le_trans (List.length_filter_le _ _) hal
    have h9 : ∀ f ∈ ofKind w h g 0, In9 f := fun f hf => by
      have := (hp.is f hf f (hp.hd f hf)).1
      unfold In9; omega
    rw [btRes, if_pos hc]
    generalize ofKind w h g 0 = F at hp hng hth hba hbp hFl h9 ⊢
    refine Gives.by rfl rfl (W.seq ?_)
    repeat' first | ((with_reducible apply WR.c_s (f := 25) (fn := Code.f25)); exact rfl; exact rfl; exact rfl; (first | exact rfl); (focus ((repeat' first | exact args_nil | apply args_d | exact toD_d rfl | (apply toD_clo; exact rfl) | exact all_nil | apply all_cons | exact rfl); done)); exact hmc) | ((with_reducible apply WR.c_o (f := 31) (fn := Code.f31)); exact rfl; exact rfl; exact rfl; (first | exact rfl); (focus ((repeat' first | exact args_nil | apply args_d | exact toD_d rfl | (apply toD_clo; exact rfl) | exact all_nil | apply all_cons | exact rfl); done)); exact hth; (first | exact rfl)) | ((with_reducible apply WR.mkm); exact rfl; exact rfl) | ((with_reducible apply WR.mv); exact rfl; exact rfl) | ((with_reducible apply WR.ld); exact rfl; exact rfl; exact rfl; (first | exact loadC_all (IsLawn.len (by assumption)) | exact loadC_all (IsLev.len (by assumption)))) | ((with_reducible apply WR.al); exact rfl; (first | exact rfl)) | ((with_reducible apply WR.nil)) | (with_reducible refine andThen_n ?_) | (with_reducible refine W.seq ?_) | (with_reducible refine W.region ?_) | (with_reducible refine W.skip ?_) | (with_reducible refine W.block ?_) | ((with_reducible apply W.condF); exact rfl) | (intro hb; try (exfalso; omega)) | ((with_reducible apply WR.bx); exact rfl; exact rfl; exact (by first | exact IsLev.len (by assumption) | exact IsLawn.len (by assumption) | exact rfl); (first | exact rfl)) | ((with_reducible apply WR.le); exact rfl; exact rfl) | ((with_reducible apply WR.neq); exact rfl; exact rfl; exact rfl) | ((with_reducible apply WR.mf); exact rfl; exact rfl)
    all_goals try (exfalso; omega)
    (refine (?_ : W _ (Code.loop _) _ _))
    (refine W.loopM [2, 3, 4, 6, 10, 31, 32] [3, 4, 6, 31] [12, 13, 16, 17, 2042] (fun zz : (Nat) × (List (Cel × Int)) => match zz with | (k, M) => (F.length - k : Nat)) (fun zz : (Nat) × (List (Cel × Int)) => match zz with | (k, M) => (k ≤ F.length ∧ M = MF (totL PT (F.take k)) : Prop)) (fun zz : (Nat) × (List (Cel × Int)) => match zz with | (k, M) => [(33, .a (.d (.s (.int .i64 (k : Nat)))))]) (fun zz : (Nat) × (List (Cel × Int)) => match zz with | (k, M) => [(27, .map KC (encM M))]) (0, []) (⟨by omega, rfl⟩) ⟨rfl, trivial⟩ ⟨rfl, trivial⟩ ⟨(by (repeat' first | exact rfl | assumption | (with_reducible apply noPar_set) | ((with_reducible apply noPar_puto); exact rfl) | (with_reducible apply noPar_put) | (with_reducible apply noPar_putv) | (with_reducible apply noPar_putm) | (with_reducible apply noPar_kill) | ((with_reducible apply noPar_mix); exact rfl) | ((with_reducible apply noPar_mixT); exact rfl)); done), (by (repeat' first | exact rfl | assumption | (with_reducible apply noPar_set) | ((with_reducible apply noPar_puto); exact rfl) | (with_reducible apply noPar_put) | (with_reducible apply noPar_putv) | (with_reducible apply noPar_putm) | (with_reducible apply noPar_kill) | ((with_reducible apply noPar_mix); exact rfl) | ((with_reducible apply noPar_mixT); exact rfl)); done), (by (repeat' first | exact rfl | assumption | (with_reducible apply noPar_set) | ((with_reducible apply noPar_puto); exact rfl) | (with_reducible apply noPar_put) | (with_reducible apply noPar_putv) | (with_reducible apply noPar_putm) | (with_reducible apply noPar_kill) | ((with_reducible apply noPar_mix); exact rfl) | ((with_reducible apply noPar_mixT); exact rfl)); done), (by (repeat' first | exact rfl | assumption | (with_reducible apply noPar_set) | ((with_reducible apply noPar_puto); exact rfl) | (with_reducible apply noPar_put) | (with_reducible apply noPar_putv) | (with_reducible apply noPar_putm) | (with_reducible apply noPar_kill) | ((with_reducible apply noPar_mix); exact rfl) | ((with_reducible apply noPar_mixT); exact rfl)); done), (by (repeat' first | exact rfl | assumption | (with_reducible apply noPar_set) | ((with_reducible apply noPar_puto); exact rfl) | (with_reducible apply noPar_put) | (with_reducible apply noPar_putv) | (with_reducible apply noPar_putm) | (with_reducible apply noPar_kill) | ((with_reducible apply noPar_mix); exact rfl) | ((with_reducible apply noPar_mixT); exact rfl)); done), trivial⟩ ?_)
    rintro ⟨k, M⟩ σ hP hN; dsimp only [setL, putL] at hP ⊢; obtain ⟨n12, hN⟩ := hN; obtain ⟨n13, hN⟩ := hN; obtain ⟨n16, hN⟩ := hN; obtain ⟨n17, hN⟩ := hN; obtain ⟨n2042, hN⟩ := hN
    obtain ⟨hk, hM⟩ := hP
    by_cases hkl : k < F.length
    · have hfm := gC_mem hkl
      have hst : F.take (k + 1) = F.take k ++ [gC F k] := by rw [List.take_add_one, gC_get hkl]; rfl
      have hn := hng _ hfm
      have hpl := hp.len _ hfm
      obtain ⟨q', hv'⟩ := hp.lv _ hfm
      have htl := totL_len (PT := PT) (F := F.take k) (fun f hf => (hp.len f (List.mem_of_mem_take hf)).2)
      rw [List.length_take] at htl
      have hts := totL_snoc PT (F.take k) (gC F k)
      rw [← hst] at hts
      have h9f := h9 _ hfm
      generalize PT (gC F k) = pth at hn hpl hts
      repeat' first | ((with_reducible apply WR.c_ao (f := 26) (fn := Code.f26)); exact rfl; exact rfl; exact rfl; (first | exact rfl); (focus ((repeat' first | exact args_nil | apply args_d | exact toD_d rfl | exact rfl); done)); exact hn; (first | exact rfl | assumption | (focus ((repeat' first | exact rfl | assumption | (with_reducible apply noPar_set) | ((with_reducible apply noPar_puto); exact rfl) | (with_reducible apply noPar_kill)); done)))) | ((with_reducible apply WR.mv); exact rfl; exact rfl) | ((with_reducible apply WR.mvt); exact rfl; exact rfl) | ((with_reducible apply WR.ld); exact rfl; exact rfl; exact rfl; (first | exact ld2 | exact loadC_all (IsLawn.len (by assumption)) | exact loadC_all (IsLev.len (by assumption)) | exact ldC (by first | omega))) | ((with_reducible apply WR.st); exact rfl; exact rfl; exact rfl; exact st2) | ((with_reducible apply WR.st); exact rfl; exact rfl; exact rfl; exact storeAll (by first | exact List.length_replicate .. | exact IsLev.len (by assumption) | assumption | exact rfl) (by first | exact List.length_replicate .. | exact IsLev.len (by assumption) | assumption | exact rfl)) | ((with_reducible apply WR.al); exact rfl; (first | exact rfl | assumption | (focus ((repeat' first | exact rfl | assumption | (with_reducible apply noPar_set) | ((with_reducible apply noPar_puto); exact rfl) | (with_reducible apply noPar_kill)); done)))) | ((with_reducible apply WR.ex); exact rfl; exact rfl) | ((with_reducible apply WR.nil)) | (with_reducible refine andThen_n ?_) | (with_reducible refine W.seq ?_) | (with_reducible refine W.region ?_) | (with_reducible refine W.skip ?_) | (with_reducible refine W.block ?_) | ((with_reducible apply W.condT); exact rfl) | (intro hb; try (exfalso; omega)) | ((with_reducible apply WR.lss); exact rfl; exact rfl; exact rfl) | ((with_reducible apply WR.isn); exact rfl; exact rfl; exact rfl; omega) | ((with_reducible apply WR.le); exact rfl; exact rfl)
      (refine (?_ : W _ (Code.loop _) _ _))
      (refine W.loopM [2, 3, 4, 6, 10, 14, 31, 32, 33, 45, 46] [3, 4, 6, 31, 2042] [12, 13, 16, 17, 2042] (fun zz : (Nat) × (List (Cel × Int)) => match zz with | (i, M) => (pth.length - i : Nat)) (fun zz : (Nat) × (List (Cel × Int)) => match zz with | (i, M) => (i ≤ pth.length ∧ M = MF (totL PT (F.take k) ++ dd (pth.take i)) : Prop)) (fun zz : (Nat) × (List (Cel × Int)) => match zz with | (i, M) => [(47, .a (.d (.s (.int .i64 (i : Nat)))))]) (fun zz : (Nat) × (List (Cel × Int)) => match zz with | (i, M) => [(27, .map KC (encM M))]) (0, M) (⟨by omega, by rw [hM]; simp [dd]⟩) ⟨rfl, trivial⟩ ⟨rfl, trivial⟩ ⟨(by (repeat' first | exact rfl | assumption | (with_reducible apply noPar_set) | ((with_reducible apply noPar_puto); exact rfl) | (with_reducible apply noPar_put) | (with_reducible apply noPar_putv) | (with_reducible apply noPar_putm) | (with_reducible apply noPar_kill) | ((with_reducible apply noPar_mix); exact rfl) | ((with_reducible apply noPar_mixT); exact rfl)); done), (by (repeat' first | exact rfl | assumption | (with_reducible apply noPar_set) | ((with_reducible apply noPar_puto); exact rfl) | (with_reducible apply noPar_put) | (with_reducible apply noPar_putv) | (with_reducible apply noPar_putm) | (with_reducible apply noPar_kill) | ((with_reducible apply noPar_mix); exact rfl) | ((with_reducible apply noPar_mixT); exact rfl)); done), (by (repeat' first | exact rfl | assumption | (with_reducible apply noPar_set) | ((with_reducible apply noPar_puto); exact rfl) | (with_reducible apply noPar_put) | (with_reducible apply noPar_putv) | (with_reducible apply noPar_putm) | (with_reducible apply noPar_kill) | ((with_reducible apply noPar_mix); exact rfl) | ((with_reducible apply noPar_mixT); exact rfl)); done), (by (repeat' first | exact rfl | assumption | (with_reducible apply noPar_set) | ((with_reducible apply noPar_puto); exact rfl) | (with_reducible apply noPar_put) | (with_reducible apply noPar_putv) | (with_reducible apply noPar_putm) | (with_reducible apply noPar_kill) | ((with_reducible apply noPar_mix); exact rfl) | ((with_reducible apply noPar_mixT); exact rfl)); done), (by (repeat' first | exact rfl | assumption | (with_reducible apply noPar_set) | ((with_reducible apply noPar_puto); exact rfl) | (with_reducible apply noPar_put) | (with_reducible apply noPar_putv) | (with_reducible apply noPar_putm) | (with_reducible apply noPar_kill) | ((with_reducible apply noPar_mix); exact rfl) | ((with_reducible apply noPar_mixT); exact rfl)); done), trivial⟩ ?_)
      rintro ⟨i, M⟩ σ hP hN; dsimp only [setL, putL] at hP ⊢; obtain ⟨n12, hN⟩ := hN; obtain ⟨n13, hN⟩ := hN; obtain ⟨n16, hN⟩ := hN; obtain ⟨n17, hN⟩ := hN; obtain ⟨n2042, hN⟩ := hN
      clear hM
      obtain ⟨hi, hM⟩ := hP
      by_cases hil : i < pth.length
      · have hsti : pth.take (i + 1) = pth.take i ++ [gC pth i] := by rw [List.take_add_one, gC_get hil]; rfl
        have hds := dd_snoc (pth.take i) (gC pth i)
        rw [← hsti] at hds
        have hct := contains_gives ((pth.drop 0).take i) (by simp; omega) (gC pth i).1 (gC pth i).2
        have hb0 := mf_b (totL PT (F.take k) ++ dd (pth.take i)) (gC pth i)
        have hb2 := (dd_mem _ (pth.take i) rfl).2
        rw [← hM, List.length_append] at hb0
        rw [List.length_take] at hb2
        have hb1 : 0 ≤ cntM M ((gC pth i).1, (gC pth i).2) ∧ cntM M ((gC pth i).1, (gC pth i).2) ≤ 10000 := by
          show 0 ≤ cntM M (gC pth i) ∧ cntM M (gC pth i) ≤ 10000
          omega
        by_cases hmem : gC pth i ∈ pth.take i
        · rw [if_pos hmem] at hds
          have hct' : Gives G 83 [asl ((pth.drop 0).take i), ac (gC pth i).1 (gC pth i).2] (rb true) := by
            have e : decide (((gC pth i).1, (gC pth i).2) ∈ (pth.drop 0).take i) = true := decide_eq_true hmem
            rw [e] at hct; exact hct
          clear hct
          repeat' first | ((with_reducible apply WH.c_s (f := 83) (fn := Code.f83)); exact rfl; exact rfl; exact rfl; (first | exact rfl); (focus ((repeat' first | exact args_nil | apply args_d | exact toD_d rfl | exact toD_slC2 rfl rfl (by omega) | exact rfl); done)); exact hct'; exact rfl) | ((with_reducible apply WR.mv); exact rfl; exact rfl) | ((with_reducible apply WR.ld); exact rfl; exact rfl; exact rfl; (first | exact ld2 | exact ldC (by first | omega))) | ((with_reducible apply WR.st); exact rfl; exact rfl; exact rfl; exact st2) | ((with_reducible apply WR.al); exact rfl; (first | exact rfl | assumption)) | ((with_reducible apply WR.nil)) | (with_reducible refine andThen_n ?_) | (with_reducible refine inB_n ?_) | (with_reducible refine W.seq ?_) | (with_reducible refine W.region ?_) | (with_reducible refine W.skip ?_) | (with_reducible refine W.block ?_) | ((with_reducible apply W.condT); exact rfl) | ((with_reducible apply W.condF); exact rfl) | ((with_reducible apply WH.mv); exact rfl; exact rfl; exact rfl) | ((with_reducible apply WH.nil)) | (with_reducible refine W.draw ?_) | (intro hb; try (exfalso; omega)) | ((with_reducible apply WR.lss); exact rfl; exact rfl; exact rfl) | ((with_reducible apply WR.ad); exact rfl; exact rfl; exact rfl; (first | exact i64_in _ (by omega) | assumption)) | ((with_reducible apply WR.isn); exact rfl; exact rfl; exact rfl; omega) | ((with_reducible apply WH.ld); exact rfl; exact rfl; exact rfl; (first | exact ld2 | exact ldC (by first | omega)); exact rfl) | ((with_reducible apply WH.s2x); exact rfl; exact rfl; (first | exact rfl); (first | exact rfl); exact ⟨by omega, by omega⟩; exact rfl) | ((with_reducible apply WH.un); exact rfl; exact rfl; exact rfl)
          (refine W.nxt ((i + 1, M)) (by first | omega | (dsimp only; omega)) ?_ ⟨rfl, trivial⟩ ⟨rfl, trivial⟩ ⟨rfl, rfl, rfl, rfl, rfl, rfl, rfl, rfl, rfl, rfl, rfl, trivial⟩ ⟨rfl, rfl, rfl, rfl, rfl, trivial⟩ ⟨(by (repeat' first | exact rfl | assumption | (with_reducible apply noPar_set) | ((with_reducible apply noPar_puto); exact rfl) | (with_reducible apply noPar_put) | (with_reducible apply noPar_putv) | (with_reducible apply noPar_putm) | (with_reducible apply noPar_kill) | ((with_reducible apply noPar_mix); exact rfl) | ((with_reducible apply noPar_mixT); exact rfl)); done), (by (repeat' first | exact rfl | assumption | (with_reducible apply noPar_set) | ((with_reducible apply noPar_puto); exact rfl) | (with_reducible apply noPar_put) | (with_reducible apply noPar_putv) | (with_reducible apply noPar_putm) | (with_reducible apply noPar_kill) | ((with_reducible apply noPar_mix); exact rfl) | ((with_reducible apply noPar_mixT); exact rfl)); done), (by (repeat' first | exact rfl | assumption | (with_reducible apply noPar_set) | ((with_reducible apply noPar_puto); exact rfl) | (with_reducible apply noPar_put) | (with_reducible apply noPar_putv) | (with_reducible apply noPar_putm) | (with_reducible apply noPar_kill) | ((with_reducible apply noPar_mix); exact rfl) | ((with_reducible apply noPar_mixT); exact rfl)); done), (by (repeat' first | exact rfl | assumption | (with_reducible apply noPar_set) | ((with_reducible apply noPar_puto); exact rfl) | (with_reducible apply noPar_put) | (with_reducible apply noPar_putv) | (with_reducible apply noPar_putm) | (with_reducible apply noPar_kill) | ((with_reducible apply noPar_mix); exact rfl) | ((with_reducible apply noPar_mixT); exact rfl)); done), (by (repeat' first | exact rfl | assumption | (with_reducible apply noPar_set) | ((with_reducible apply noPar_puto); exact rfl) | (with_reducible apply noPar_put) | (with_reducible apply noPar_putv) | (with_reducible apply noPar_putm) | (with_reducible apply noPar_kill) | ((with_reducible apply noPar_mix); exact rfl) | ((with_reducible apply noPar_mixT); exact rfl)); done), trivial⟩); (try dsimp only)
          exact ⟨by omega, by rw [hM, hds]⟩
        · rw [if_neg hmem] at hds
          have hct' : Gives G 83 [asl ((pth.drop 0).take i), ac (gC pth i).1 (gC pth i).2] (rb false) := by
            have e : decide (((gC pth i).1, (gC pth i).2) ∈ (pth.drop 0).take i) = false := decide_eq_false hmem
            rw [e] at hct; exact hct
          clear hct
          repeat' first | ((with_reducible apply WH.c_s (f := 83) (fn := Code.f83)); exact rfl; exact rfl; exact rfl; (first | exact rfl); (focus ((repeat' first | exact args_nil | apply args_d | exact toD_d rfl | exact toD_slC2 rfl rfl (by omega) | exact rfl); done)); exact hct'; exact rfl) | ((with_reducible apply WH.mget); exact rfl; exact rfl; exact rfl; exact rfl) | ((with_reducible apply WH.ment); exact rfl; exact rfl; exact rfl; exact rfl; exact rfl) | ((with_reducible apply WH.mest); exact rfl; exact rfl; exact rfl; exact rfl; exact rfl; exact (entM_at _ _).1; exact rfl) | ((with_reducible apply WR.mv); exact rfl; exact rfl) | ((with_reducible apply WR.ld); exact rfl; exact rfl; exact rfl; (first | exact ld2 | exact ldC (by first | omega))) | ((with_reducible apply WR.st); exact rfl; exact rfl; exact rfl; exact st2) | ((with_reducible apply WR.al); exact rfl; (first | exact rfl | assumption)) | ((with_reducible apply WR.nil)) | (with_reducible refine andThen_n ?_) | (with_reducible refine inB_n ?_) | (with_reducible refine W.seq ?_) | (with_reducible refine W.region ?_) | (with_reducible refine W.skip ?_) | (with_reducible refine W.block ?_) | ((with_reducible apply W.condT); exact rfl) | ((with_reducible apply WH.mv); exact rfl; exact rfl; exact rfl) | ((with_reducible apply WH.nil)) | (with_reducible refine W.draw ?_) | (intro hb; try (exfalso; omega)) | ((with_reducible apply WR.lss); exact rfl; exact rfl; exact rfl) | ((with_reducible apply WR.ad); exact rfl; exact rfl; exact rfl; (first | exact i64_in _ (by omega) | assumption)) | ((with_reducible apply WR.isn); exact rfl; exact rfl; exact rfl; omega) | ((with_reducible apply WH.ld); exact rfl; exact rfl; exact rfl; (first | exact ld2 | exact ldC (by first | omega)); exact rfl) | ((with_reducible apply WH.ad); exact rfl; exact rfl; exact rfl; (first | exact i64_in _ (by omega) | assumption)) | ((with_reducible apply WH.s2x); exact rfl; exact rfl; (first | exact rfl); (first | exact rfl); exact ⟨by omega, by omega⟩; exact rfl) | ((with_reducible apply WH.un); exact rfl; exact rfl; exact rfl) | ((with_reducible apply WH.ex); exact rfl; exact rfl; exact rfl)
          (refine W.nxt ((i + 1, bumpM M (gC pth i))) (by first | omega | (dsimp only; omega)) ?_ ⟨rfl, trivial⟩ ⟨rfl, trivial⟩ ⟨rfl, rfl, rfl, rfl, rfl, rfl, rfl, rfl, rfl, rfl, rfl, trivial⟩ ⟨rfl, rfl, rfl, rfl, rfl, trivial⟩ ⟨(by (repeat' first | exact rfl | assumption | (with_reducible apply noPar_set) | ((with_reducible apply noPar_puto); exact rfl) | (with_reducible apply noPar_put) | (with_reducible apply noPar_putv) | (with_reducible apply noPar_putm) | (with_reducible apply noPar_kill) | ((with_reducible apply noPar_mix); exact rfl) | ((with_reducible apply noPar_mixT); exact rfl)); done), (by (repeat' first | exact rfl | assumption | (with_reducible apply noPar_set) | ((with_reducible apply noPar_puto); exact rfl) | (with_reducible apply noPar_put) | (with_reducible apply noPar_putv) | (with_reducible apply noPar_putm) | (with_reducible apply noPar_kill) | ((with_reducible apply noPar_mix); exact rfl) | ((with_reducible apply noPar_mixT); exact rfl)); done), (by (repeat' first | exact rfl | assumption | (with_reducible apply noPar_set) | ((with_reducible apply noPar_puto); exact rfl) | (with_reducible apply noPar_put) | (with_reducible apply noPar_putv) | (with_reducible apply noPar_putm) | (with_reducible apply noPar_kill) | ((with_reducible apply noPar_mix); exact rfl) | ((with_reducible apply noPar_mixT); exact rfl)); done), (by (repeat' first | exact rfl | assumption | (with_reducible apply noPar_set) | ((with_reducible apply noPar_puto); exact rfl) | (with_reducible apply noPar_put) | (with_reducible apply noPar_putv) | (with_reducible apply noPar_putm) | (with_reducible apply noPar_kill) | ((with_reducible apply noPar_mix); exact rfl) | ((with_reducible apply noPar_mixT); exact rfl)); done), (by (repeat' first | exact rfl | assumption | (with_reducible apply noPar_set) | ((with_reducible apply noPar_puto); exact rfl) | (with_reducible apply noPar_put) | (with_reducible apply noPar_putv) | (with_reducible apply noPar_putm) | (with_reducible apply noPar_kill) | ((with_reducible apply noPar_mix); exact rfl) | ((with_reducible apply noPar_mixT); exact rfl)); done), trivial⟩); (try dsimp only)
          exact ⟨by omega, by rw [hM, hds, ← List.append_assoc, MF_snoc]⟩
      · obtain rfl : i = pth.length := by omega
        rw [List.take_of_length_le (l := pth) (Nat.le_refl _), ← hts] at hM
        repeat' first | ((with_reducible apply WR.mv); exact rfl; exact rfl) | ((with_reducible apply WR.nil)) | (with_reducible refine andThen_n ?_) | (with_reducible refine andThen_x ?_) | (with_reducible refine inB_n ?_) | (with_reducible refine inB_x ?_) | (with_reducible refine W.seq ?_) | (with_reducible refine W.region ?_) | (with_reducible refine W.exit ?_) | ((with_reducible apply W.condF); exact rfl) | (intro hb; try (exfalso; omega)) | ((with_reducible apply WR.lss); exact rfl; exact rfl; exact rfl) | ((with_reducible apply WR.ad); exact rfl; exact rfl; exact rfl; (first | exact i64_in _ (by omega)))
        (refine W.nxt ((k + 1, M)) (by first | omega | (dsimp only; omega)) ?_ ⟨rfl, trivial⟩ ⟨rfl, trivial⟩ ⟨rfl, rfl, rfl, rfl, rfl, rfl, rfl, trivial⟩ ⟨rfl, rfl, rfl, rfl, trivial⟩ ⟨(by (repeat' first | exact rfl | assumption | (with_reducible apply noPar_set) | ((with_reducible apply noPar_puto); exact rfl) | (with_reducible apply noPar_put) | (with_reducible apply noPar_putv) | (with_reducible apply noPar_putm) | (with_reducible apply noPar_kill) | ((with_reducible apply noPar_mix); exact rfl) | ((with_reducible apply noPar_mixT); exact rfl)); done), (by (repeat' first | exact rfl | assumption | (with_reducible apply noPar_set) | ((with_reducible apply noPar_puto); exact rfl) | (with_reducible apply noPar_put) | (with_reducible apply noPar_putv) | (with_reducible apply noPar_putm) | (with_reducible apply noPar_kill) | ((with_reducible apply noPar_mix); exact rfl) | ((with_reducible apply noPar_mixT); exact rfl)); done), (by (repeat' first | exact rfl | assumption | (with_reducible apply noPar_set) | ((with_reducible apply noPar_puto); exact rfl) | (with_reducible apply noPar_put) | (with_reducible apply noPar_putv) | (with_reducible apply noPar_putm) | (with_reducible apply noPar_kill) | ((with_reducible apply noPar_mix); exact rfl) | ((with_reducible apply noPar_mixT); exact rfl)); done), (by (repeat' first | exact rfl | assumption | (with_reducible apply noPar_set) | ((with_reducible apply noPar_puto); exact rfl) | (with_reducible apply noPar_put) | (with_reducible apply noPar_putv) | (with_reducible apply noPar_putm) | (with_reducible apply noPar_kill) | ((with_reducible apply noPar_mix); exact rfl) | ((with_reducible apply noPar_mixT); exact rfl)); done), (by (repeat' first | exact rfl | assumption | (with_reducible apply noPar_set) | ((with_reducible apply noPar_puto); exact rfl) | (with_reducible apply noPar_put) | (with_reducible apply noPar_putv) | (with_reducible apply noPar_putm) | (with_reducible apply noPar_kill) | ((with_reducible apply noPar_mix); exact rfl) | ((with_reducible apply noPar_mixT); exact rfl)); done), trivial⟩); (try dsimp only)
        exact ⟨by omega, hM⟩
    · obtain rfl : k = F.length := by omega
      rw [List.take_of_length_le (by omega)] at hM
      have hmo := hmo M
      rw [hM, most_map, hba] at hmo
      rw [← hM] at hmo
      have hb0 : F = [] → bestB PT F = ((0, 0), 0) := fun e => by rw [e]; rfl
      generalize bestB PT F = b at hmo hbp hb0 ⊢
      by_cases hF : F = []
      · have e := hb0 hF
        subst e
        rw [if_pos hF]
        repeat' first | ((with_reducible apply WR.c_as (f := 205) (fn := Code.f205)); exact rfl; exact rfl; exact rfl; (first | exact rfl); (focus ((repeat' first | exact args_nil | apply args_d | exact toD_d rfl | exact all_nil | apply all_cons | exact rfl); done)); exact hmo) | ((with_reducible apply WR.mv); exact rfl; exact rfl) | ((with_reducible apply WR.mvt); exact rfl; exact rfl) | ((with_reducible apply WR.ld); exact rfl; exact rfl; exact rfl; (first | exact loadC_all (IsLawn.len (by assumption)))) | ((with_reducible apply WR.st); exact rfl; exact rfl; exact rfl; exact st2) | ((with_reducible apply WR.al); exact rfl; (first | exact rfl | assumption)) | ((with_reducible apply WR.ex); exact rfl; exact rfl) | ((with_reducible apply WR.nil)) | (with_reducible refine andThen_n ?_) | (with_reducible refine andThen_x ?_) | (with_reducible refine andThen_r ?_) | (with_reducible refine inB_x ?_) | (with_reducible refine W.seq ?_) | (with_reducible refine W.region ?_) | (with_reducible refine W.ret ?_) | (with_reducible refine W.exit ?_) | ((with_reducible apply W.condT); exact rfl) | ((with_reducible apply W.condF); exact rfl) | ((with_reducible apply Done.f); (intro hh hh2; exact (nomatch hh2)); (focus ((repeat' first | exact all_nil | apply all_cons | exact res_tmp rfl | exact res_cell rfl rfl (by first | assumption | exact rfl) | exact rfl); done)); (focus ((repeat' first | exact all_nil | apply all_cons | exact retOf_s rfl | exact retOf_a rfl | exact rfl); done)); exact rfl; (focus ((repeat' first | exact outs_nil | apply outs_d | exact rfl); done))) | (intro hb; try (exfalso; omega)) | ((with_reducible apply WR.lss); exact rfl; exact rfl; exact rfl) | ((with_reducible apply WR.bu); exact rfl; exact rfl) | ((with_reducible apply WR.eql); exact rfl; exact rfl; exact rfl)
        all_goals first
          | (exfalso; exact absurd rfl (by assumption))
          | rfl
      · have := hbp hF
        rw [if_neg hF]
        repeat' first | ((with_reducible apply WR.c_as (f := 205) (fn := Code.f205)); exact rfl; exact rfl; exact rfl; (first | exact rfl); (focus ((repeat' first | exact args_nil | apply args_d | exact toD_d rfl | exact all_nil | apply all_cons | exact rfl); done)); exact hmo) | ((with_reducible apply WR.mv); exact rfl; exact rfl) | ((with_reducible apply WR.mvt); exact rfl; exact rfl) | ((with_reducible apply WR.ld); exact rfl; exact rfl; exact rfl; (first | exact ld2 | exact loadC_all (IsLawn.len (by assumption)))) | ((with_reducible apply WR.st); exact rfl; exact rfl; exact rfl; exact st2) | ((with_reducible apply WR.al); exact rfl; (first | exact rfl | assumption)) | ((with_reducible apply WR.ex); exact rfl; exact rfl) | ((with_reducible apply WR.nil)) | (with_reducible refine andThen_n ?_) | (with_reducible refine andThen_x ?_) | (with_reducible refine inB_x ?_) | (with_reducible refine W.seq ?_) | (with_reducible refine W.region ?_) | (with_reducible refine W.skip ?_) | (with_reducible refine W.ret ?_) | (with_reducible refine W.exit ?_) | ((with_reducible apply W.condF); exact rfl) | ((with_reducible apply Done.f); (intro hh hh2; exact (nomatch hh2)); (focus ((repeat' first | exact all_nil | apply all_cons | exact res_tmp rfl | exact res_cell rfl rfl (by first | assumption | exact rfl) | exact rfl); done)); (focus ((repeat' first | exact all_nil | apply all_cons | exact retOf_s rfl | exact retOf_a rfl | exact rfl); done)); exact rfl; (focus ((repeat' first | exact outs_nil | apply outs_d | exact rfl); done))) | (intro hb; try (exfalso; omega)) | ((with_reducible apply WR.lss); exact rfl; exact rfl; exact rfl) | ((with_reducible apply WR.eql); exact rfl; exact rfl; exact rfl)
        all_goals first
          | (exfalso; omega)
          | rfl
  · rw [btRes, if_neg hc]
    refine Gives.by rfl rfl (W.seq ?_)
    repeat' first | ((with_reducible apply WR.c_s (f := 25) (fn := Code.f25)); exact rfl; exact rfl; exact rfl; (first | exact rfl); (focus ((repeat' first | exact args_nil | apply args_d | exact toD_d rfl | exact all_nil | apply all_cons | exact rfl); done)); exact hmc) | ((with_reducible apply WR.mv); exact rfl; exact rfl) | ((with_reducible apply WR.ld); exact rfl; exact rfl; exact rfl; (first | exact loadC_all (IsLawn.len (by assumption)) | exact loadC_all (IsLev.len (by assumption)))) | ((with_reducible apply WR.st); exact rfl; exact rfl; exact rfl; exact st2) | ((with_reducible apply WR.al); exact rfl; (first | exact rfl)) | ((with_reducible apply WR.nil)) | (with_reducible refine andThen_n ?_) | (with_reducible refine andThen_r ?_) | (with_reducible refine W.seq ?_) | (with_reducible refine W.region ?_) | (with_reducible refine W.ret ?_) | ((with_reducible apply W.condT); exact rfl) | ((with_reducible apply Done.f); (intro hh hh2; exact (nomatch hh2)); (focus ((repeat' first | exact all_nil | apply all_cons | exact res_tmp rfl | exact res_cell rfl rfl (by first | exact IsLev.len (by assumption) | exact IsLawn.len (by assumption) | exact rfl) | exact rfl); done)); (focus ((repeat' first | exact all_nil | apply all_cons | exact retOf_s rfl | exact retOf_a rfl | exact rfl); done)); exact rfl; (focus ((repeat' first | exact outs_nil | apply outs_d | exact rfl); done))) | (intro hb; try (exfalso; omega)) | ((with_reducible apply WR.bx); exact rfl; exact rfl; exact (by first | exact IsLev.len (by assumption) | exact IsLawn.len (by assumption) | exact rfl); (first | exact rfl)) | ((with_reducible apply WR.bu); exact rfl; exact rfl) | ((with_reducible apply WR.neq); exact rfl; exact rfl; exact rfl)
    all_goals first
      | (exfalso; omega)
      | (exfalso; exact hc (by assumption))
      | rfl
end Go.DM
