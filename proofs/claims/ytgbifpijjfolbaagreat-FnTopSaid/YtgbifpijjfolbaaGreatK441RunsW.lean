/- Runs of grass: both sides (for FnTop). -/
import Derived.Test.YtgbifpijjfolbaaGreatK441RunsP
import Derived.Test.YtgbifpijjfolbaaGreatK441Weeds
set_option linter.all false
set_option maxHeartbeats 4000000
namespace Go.DM
variable [Tok]
open Go.IntWalk
variable {w h : Int} {g : Nat → Int} {cs : List S}
def runsL (w h : Int) (g : Nat → Int) (A : List Cel) : List Run := (A.filter fun c => decide (RunBeg w h g c)).map fun c => (c, (runAt w h g c : Int))
theorem runsL_snoc {A : List Cel} {i : Nat} (hi : i < A.length) : runsL w h g (A.take (i + 1)) = if RunBeg w h g (gC A i) then runsL w h g (A.take i) ++ [(gC A i, (runAt w h g (gC A i) : Int))] else runsL w h g (A.take i) := by
  unfold runsL
  rw [List.take_add_one, gC_get hi, Option.toList_some, List.filter_append, List.map_append]
  by_cases hb : RunBeg w h g (gC A i)
  · rw [if_pos hb, List.filter_cons_of_pos (by simpa using hb)]; rfl
  · rw [if_neg hb, List.filter_cons_of_neg (by simpa using hb)]; simp
theorem runsL_len (A : List Cel) : (runsL w h g A).length ≤ A.length := by
  unfold runsL; rw [List.length_map]; exact List.length_filter_le ..
theorem runAt_le {c : Cel} (hc : c.1 ≤ w) : (runAt w h g c : Int) ≤ w - c.1 := by
  have : ∀ (f : Nat) (x : Int), runF w h g c.2 f x ≤ f := fun f => by
    induction f with
    | zero => intro x; exact Nat.le_refl _
    | succ f ih => intro x; rw [runF]; have := ih (x + 1); split <;> omega
  have := this (w - c.1).toNat c.1
  unfold runAt
  omega
def runsRes (L : List Run) : Res := ⟨[.own L.length 3 (encX runC L)], []⟩
theorem runs_gives (l : IsLawn w h g cs) (hs : 0 ≤ w ∧ w ≤ 10 ∧ 0 ≤ h ∧ h ≤ 10) : Gives G 450 [aa cs, ab true] (runsRes (runsL w h g (allC w h))) := by
  have hall := all_gives l hs
  have hal := allC_len (w := w) (h := h) (by omega)
  have hmem := fun c => allC_mem (w := w) (h := h) (c := c)
  generalize allC w h = A at hall hal hmem ⊢
  unfold runsRes
  refine Gives.by rfl rfl (W.seq ?_)
  repeat' first | ((with_reducible apply WR.c_o (f := 33) (fn := Code.f33)); (iterate 3 exact rfl); exact rfl; (focus ((repeat' first | exact args_nil | apply args_d | exact toD_d rfl | exact rfl); done)); exact hall; exact rfl) | ((with_reducible first | apply WR.mv | apply WR.un | apply WR.le); exact rfl; exact rfl) | ((with_reducible apply WR.ld); (iterate 3 exact rfl); (exact loadC_all (IsLawn.len (by assumption)))) | (with_reducible first | apply WR.nil | refine andThen_n ?_ | refine W.seq ?_ | refine W.region ?_ | refine W.skip ?_ | refine W.block ?_) | ((with_reducible apply W.condF); exact rfl) | ((with_reducible apply WR.bT0); exact rfl; exact rfl) | ((with_reducible apply WR.bx); exact rfl; exact rfl; exact (by first | exact IsLawn.len (by assumption) | exact rfl); exact rfl)
  (refine (?_ : W _ (Code.loop _) _ _))
  (refine W.loopM [2, 6, 7, 15, 16] [2, 15] [9, 59, 60] (fun ((i, out) : (Nat) × (List Run)) => (A.length - i : Nat)) (fun ((i, out) : (Nat) × (List Run)) => (i ≤ A.length ∧ out = runsL w h g (A.take i) : Prop)) (fun z : (Nat) × (List Run) => match z with | (i, out) => [(5, .a (.sl 11 0 out.length 3)), (17, .a (.d (.s (.int .i64 (i : Nat)))))]) (fun z : (Nat) × (List Run) => match z with | (i, out) => [(11, .flat false (encX runC out))]) (0, []) (⟨by omega, rfl⟩) ⟨rfl, rfl, trivial⟩ ⟨rfl, trivial⟩ ⟨np, np, np, trivial⟩ ?_)
  rintro ⟨i, out⟩ σ hP hN; dsimp only [setL, putL] at hP ⊢; obtain ⟨n9, hN⟩ := hN; obtain ⟨n59, hN⟩ := hN; obtain ⟨n60, hN⟩ := hN
  obtain ⟨hi, ho⟩ := hP
  by_cases hil : i < A.length
  · have hc := hmem _ (gC_mem hil)
    simp only [Has] at hc
    have hsn := runsL_snoc (w := w) (h := h) (g := g) hil
    have hlo := runsL_len (w := w) (h := h) (g := g) (A.take i)
    rw [← ho] at hlo hsn
    rw [List.length_take] at hlo
    repeat' first | ((with_reducible apply WR.c_p (f := 32) (fn := Code.f32)); (iterate 3 exact rfl); exact rfl; (focus ((repeat' first | exact args_nil | apply args_d | exact toD_d rfl | exact rfl); done)); exact grass_gives (by assumption) _ _ (by omega)) | ((with_reducible first | apply WR.mv | apply WR.lx | apply WR.fa | apply WR.un | apply WR.pk); exact rfl; exact rfl) | ((with_reducible apply WR.ld); (iterate 3 exact rfl); (first | exact ld2 | exact loadC_all (IsLawn.len (by assumption)) | exact ldC (by first | omega))) | ((with_reducible apply WR.off); exact rfl) | ((with_reducible apply WR.ad); (iterate 3 exact rfl); (first | exact i64_in _ (by omega) | assumption | exact i8_in _ (by omega))) | ((with_reducible first | apply WR.bC | apply WR.lss); iterate 3 exact rfl) | (with_reducible first | apply WR.nil | refine andThen_n ?_ | refine andThen_x ?_ | refine inB_x ?_ | refine W.seq ?_ | refine W.region ?_ | refine W.skip ?_ | refine W.exit ?_ | refine W.block ?_) | ((with_reducible apply W.condT); exact rfl) | ((with_reducible apply W.condF); exact rfl) | (intro hb; try (exfalso; omega)) | ((with_reducible apply WR.sb); (iterate 3 exact rfl); (first | exact i64_in _ (by omega) | assumption | exact i8_in _ (by omega))) | ((with_reducible apply WR.isn); (iterate 3 exact rfl); omega) | ((with_reducible apply WR.al); exact rfl; (first | exact rfl | assumption)) | ((with_reducible apply WR.st); (iterate 3 exact rfl); exact st2)
    · rw [if_neg (fun k => k.2 (by rw [Int.sub_zero] at hb; exact hb))] at hsn
      (refine W.nxt (i + 1, out) (by first | omega | (dsimp only; omega)) ?_ ⟨rfl, rfl, trivial⟩ ⟨rfl, trivial⟩ ⟨rfl, rfl, rfl, rfl, rfl, trivial⟩ ⟨rfl, rfl, trivial⟩ ⟨np, np, np, trivial⟩); (try dsimp only)
      exact ⟨by omega, hsn.symm⟩
    · rename_i hb1 hb2
      rw [Int.sub_zero] at hb
      rw [if_pos ⟨hb2, hb⟩] at hsn
      (refine (?_ : W _ (Code.loop _) _ _))
      (refine W.loopM [2, 5, 6, 7, 9, 15, 16, 17] [2, 9, 11, 15] [9, 59, 60] (fun n : (Nat) => (10 - n : Nat)) (fun n : (Nat) => ((gC A i).1 + n ≤ w ∧ runAt w h g ((gC A i).1 + n, (gC A i).2) + n = runAt w h g (gC A i) : Prop)) (fun n : (Nat) => [(10, .a (.d (.s (.int .i8 (n : Nat)))))]) (fun n : (Nat) => []) 0 (⟨by omega, by simp⟩) ⟨rfl, trivial⟩ trivial ⟨np, np, np, trivial⟩ ?_)
      rintro n σ hP hN; dsimp only [setL, putL] at hP ⊢; obtain ⟨n9, hN⟩ := hN; obtain ⟨n59, hN⟩ := hN; obtain ⟨n60, hN⟩ := hN
      obtain ⟨hn1, hn2⟩ := hP
      repeat' first | ((with_reducible apply WR.c_p (f := 32) (fn := Code.f32)); (iterate 3 exact rfl); exact rfl; (focus ((repeat' first | exact args_nil | apply args_d | exact toD_d rfl | exact rfl); done)); exact grass_gives (by assumption) _ _ (by omega)) | ((with_reducible first | apply WR.mv | apply WR.lx | apply WR.fa); exact rfl; exact rfl) | ((with_reducible apply WR.ld); (iterate 3 exact rfl); (first | exact ld2 | exact loadC_all (IsLawn.len (by assumption)))) | ((with_reducible apply WR.ad); (iterate 3 exact rfl); (first | exact i64_in _ (by omega) | assumption | exact i8_in _ (by omega))) | ((with_reducible apply WR.bTn); iterate 3 exact rfl) | ((with_reducible apply WR.bC); iterate 3 exact rfl) | (with_reducible first | apply WR.nil | refine andThen_n ?_ | refine andThen_x ?_ | refine inB_n ?_ | refine inB_x ?_ | refine W.seq ?_ | refine W.region ?_ | refine W.skip ?_ | refine W.exit ?_ | refine W.block ?_) | ((with_reducible apply W.condT); exact rfl) | ((with_reducible apply W.condF); exact rfl) | (intro hb; try (exfalso; omega)) | ((with_reducible apply WR.bT1); exact rfl; exact rfl; (first | exact rfl | assumption)) | ((with_reducible apply WR.ml); (iterate 3 exact rfl); (first | exact i64_in _ (by omega) | assumption | exact i8_in _ (by omega))) | ((with_reducible apply WR.apRn); (iterate 5 exact rfl); (omega))
      · have hb3 := hb
        rw [Int.mul_one, Int.mul_zero, Int.add_zero] at hb3
        have hst := runAt_step (w := w) (h := h) (g := g) (x := (gC A i).1 + n) (y := (gC A i).2) (by have := hb3.1; omega)
        rw [if_pos hb3] at hst
        have hb4 := hb3
        simp only [Is] at hb4
        (refine W.nxt (n + 1) (by first | omega | (dsimp only; omega)) ?_ ⟨rfl, trivial⟩ trivial ⟨rfl, rfl, rfl, rfl, rfl, rfl, rfl, rfl, trivial⟩ ⟨rfl, rfl, rfl, rfl, trivial⟩ ⟨np, np, np, trivial⟩); (try dsimp only)
        refine ⟨by omega, ?_⟩
        rw [show (gC A i).1 + ((n + 1 : Nat) : Int) = (gC A i).1 + n + 1 by omega]
        omega
      · have hb3 := hb
        rw [Int.mul_one, Int.mul_zero, Int.add_zero] at hb3
        have h0 : runAt w h g ((gC A i).1 + n, (gC A i).2) = 0 := by
          by_cases e : (gC A i).1 + n = w
          · rw [e]; exact runAt_end
          · have hst := runAt_step (w := w) (h := h) (g := g) (x := (gC A i).1 + n) (y := (gC A i).2) (by omega)
            rw [hst, if_neg hb3]
        have hnn : (n : Int) = (runAt w h g (gC A i) : Int) := by omega
        (refine W.nxt (i + 1, out ++ [(gC A i, (n : Int))]) (by first | omega | (dsimp only; omega)) ?_ ⟨rfl, rfl, trivial⟩ ⟨rfl, trivial⟩ ⟨rfl, rfl, rfl, rfl, rfl, trivial⟩ ⟨rfl, rfl, trivial⟩ ⟨np, np, np, trivial⟩); (try dsimp only)
        exact ⟨by omega, by rw [hsn, hnn]⟩
    · rw [if_neg (fun k => hb k.1)] at hsn
      (refine W.nxt (i + 1, out) (by first | omega | (dsimp only; omega)) ?_ ⟨rfl, rfl, trivial⟩ ⟨rfl, trivial⟩ ⟨rfl, rfl, rfl, rfl, rfl, trivial⟩ ⟨rfl, rfl, trivial⟩ ⟨np, np, np, trivial⟩); (try dsimp only)
      exact ⟨by omega, hsn.symm⟩
  · repeat' first | ((with_reducible apply WR.mv); exact rfl; exact rfl) | (with_reducible first | apply WR.nil | refine andThen_n ?_ | refine andThen_x ?_ | refine inB_x ?_ | refine W.seq ?_ | refine W.region ?_ | refine W.ret ?_ | refine W.exit ?_) | ((with_reducible apply W.condF); exact rfl) | ((with_reducible apply Done.f); (intro hh hh2; exact (nomatch hh2)); (focus ((repeat' first | exact all_nil | apply all_cons | exact res_tmp rfl); done)); (focus ((repeat' first | exact all_nil | apply all_cons | exact retOf_o rfl rfl (by first | exact encX_length runC_len _)); done)); exact rfl; (focus ((repeat' first | exact outs_nil | apply outs_d); done))) | (intro hb; try (exfalso; omega)) | ((with_reducible apply WR.lss); iterate 3 exact rfl)
    rw [ho, List.take_of_length_le (by omega)]; rfl
theorem idxF0_gives {f : Nat} {z : D} : Gives G 99 [.d (.s .nils), .d (.clo f [] [z])] (ri .i64 (-1)) := by
  refine Gives.by rfl rfl (W.seq ?_)
  repeat' first | (with_reducible refine W.loop ?_) | ((with_reducible first | apply WR.mv | apply WR.le); exact rfl; exact rfl) | (with_reducible first | apply WR.nil | refine andThen_n ?_ | refine andThen_x ?_ | refine inB_x ?_ | refine W.seq ?_ | refine W.region ?_ | refine W.ret ?_ | refine W.exit ?_ | refine W.block ?_) | ((with_reducible apply W.condF); exact rfl) | ((with_reducible apply Done.f); (intro hh hh2; exact (nomatch hh2)); (focus ((repeat' first | exact all_nil | apply all_cons | exact res_tmp rfl); done)); (focus ((repeat' first | exact all_nil | apply all_cons | exact retOf_s rfl); done)); exact rfl; (focus ((repeat' first | exact outs_nil | apply outs_d); done))) | (intro hb; try (exfalso; omega)) | ((with_reducible apply WR.lss); iterate 3 exact rfl)
  all_goals rfl
theorem conF0_gives {f : Nat} {z : D} : Gives G 75 [.d (.s .nils), .d (.clo f [] [z])] (rb false) := by
  have h := idxF0_gives (f := f) (z := z)
  refine Gives.by rfl rfl (W.seq ?_)
  repeat' first | ((with_reducible apply WR.c_s (f := 99) (fn := Code.f99)); (iterate 3 exact rfl); exact rfl; (focus ((repeat' first | exact args_nil | apply args_d | exact toD_d rfl | exact all_nil | apply all_cons | exact rfl); done)); exact h) | ((with_reducible apply WR.mv); exact rfl; exact rfl) | (with_reducible first | apply WR.nil | refine andThen_n ?_ | refine W.seq ?_ | refine W.region ?_ | refine W.ret ?_) | ((with_reducible apply Done.f); (intro hh hh2; exact (nomatch hh2)); (focus ((repeat' first | exact all_nil | apply all_cons | exact res_tmp rfl | exact rfl); done)); (focus ((repeat' first | exact all_nil | apply all_cons | exact retOf_s rfl | exact rfl); done)); exact rfl; (focus ((repeat' first | exact outs_nil | apply outs_d | exact rfl); done))) | (intro hb; try (exfalso; omega)) | ((with_reducible apply WR.geq); iterate 3 exact rfl)
  all_goals rfl
theorem cc0_gives (l : IsLawn w h g cs) (hok : LawnOk w h g) : Gives G 74 [aa cs, .d (.s .nils)] (ri .i64 0) := by
  have h1 := validLawn_gives l
  have h2 := conF0_gives (f := 106) (z := .ref cs)
  rw [decide_eq_true hok] at h1
  refine Gives.by rfl rfl (W.seq ?_)
  repeat' first | ((with_reducible apply WR.c_s (f := 30) (fn := Code.f30)); (iterate 3 exact rfl); exact rfl; (focus ((repeat' first | exact args_nil | apply args_d | exact toD_d rfl | exact toD_ptr rfl rfl | (apply toD_clo; exact rfl) | exact all_nil | apply all_cons | exact rfl); done)); exact h1) | ((with_reducible apply WR.c_s (f := 75) (fn := Code.f75)); (iterate 3 exact rfl); exact rfl; (focus ((repeat' first | exact args_nil | apply args_d | exact toD_d rfl | exact toD_ptr rfl rfl | (apply toD_clo; exact rfl) | exact all_nil | apply all_cons | exact rfl); done)); exact h2) | ((with_reducible first | apply WR.mv | apply WR.mf | apply WR.un); exact rfl; exact rfl) | (with_reducible first | apply WR.nil | refine andThen_n ?_ | refine inB_n ?_ | refine W.seq ?_ | refine W.region ?_ | refine W.skip ?_ | refine W.ret ?_ | refine W.block ?_) | ((with_reducible apply W.condF); exact rfl) | ((with_reducible apply Done.f); (intro hh hh2; exact (nomatch hh2)); (focus ((repeat' first | exact all_nil | apply all_cons | exact res_tmp rfl | exact rfl); done)); (focus ((repeat' first | exact all_nil | apply all_cons | exact retOf_s rfl | exact rfl); done)); exact rfl; (focus ((repeat' first | exact outs_nil | apply outs_d | exact rfl); done))) | ((with_reducible apply WR.bx); exact rfl; exact rfl; exact (by first | exact IsLawn.len (by assumption) | exact rfl); exact rfl) | ((with_reducible apply WR.ld); (iterate 3 exact rfl); (exact loadC_all (IsLawn.len (by assumption))))
  all_goals rfl
def runs2Res (L : List Run) : Res := ⟨[.own L.length 3 (encX runC L), .s (.int .i64 0)], []⟩
theorem runsOf_gives (l : IsLawn w h g cs) (hok : LawnOk w h g) : Gives G 442 [aa cs, ab true] (runs2Res (runsL w h g (allC w h))) := by
  have hs := hok.1
  have hs2 := hok.2.1
  have h1 := runs_gives l (by omega)
  have h2 := cc0_gives l hok
  unfold runsRes at h1
  unfold runs2Res
  generalize runsL w h g (allC w h) = L at h1 ⊢
  refine Gives.by rfl rfl (W.seq ?_)
  repeat' first | ((with_reducible apply WR.c_s (f := 74) (fn := Code.f74)); (iterate 3 exact rfl); exact rfl; (focus ((repeat' first | exact args_nil | apply args_d | exact toD_d rfl | exact all_nil | apply all_cons | exact rfl); done)); exact h2) | ((with_reducible apply WR.c_o (f := 450) (fn := Code.f450)); (iterate 3 exact rfl); exact rfl; (focus ((repeat' first | exact args_nil | apply args_d | exact toD_d rfl | exact all_nil | apply all_cons | exact rfl); done)); exact h1; exact rfl) | ((with_reducible apply WR.mv); exact rfl; exact rfl) | (with_reducible first | apply WR.nil | refine andThen_n ?_ | refine W.seq ?_ | refine W.region ?_ | refine W.skip ?_ | refine W.ret ?_) | ((with_reducible apply W.condF); exact rfl) | ((with_reducible apply Done.f); (intro hh hh2; exact (nomatch hh2)); (focus ((repeat' first | exact all_nil | apply all_cons | exact res_tmp rfl | exact rfl); done)); (focus ((repeat' first | exact all_nil | apply all_cons | exact retOf_s rfl | exact retOf_o rfl rfl (by first | exact encX_length runC_len _ | exact IsLawn.len (by assumption) | exact rfl) | exact rfl); done)); exact rfl; (focus ((repeat' first | exact outs_nil | apply outs_d | exact rfl); done))) | (intro hb; try (exfalso; omega)) | ((with_reducible apply WR.ld); (iterate 3 exact rfl); (exact loadC_all (IsLawn.len (by assumption)))) | ((with_reducible apply WR.neq); iterate 3 exact rfl) | ((with_reducible apply WR.bx); exact rfl; exact rfl; exact (by first | exact encX_length runC_len _ | exact IsLawn.len (by assumption) | exact rfl); exact rfl)
  rfl
theorem l01Back_gives (x y b : Int) (hb : -128 ≤ x - b ∧ x - b ≤ 127) : Gives G 461 [ac x y, ab true, ai .i8 b] ⟨[.agg [.int .i8 (x - b), .int .i8 y]], []⟩ := by
  refine Gives.by rfl rfl (W.seq ?_)
  repeat' first | ((with_reducible first | apply WR.lx | apply WR.fa | apply WR.mv); exact rfl; exact rfl) | (with_reducible first | apply WR.nil | refine andThen_n ?_ | refine andThen_r ?_ | refine W.seq ?_ | refine W.region ?_ | refine W.ret ?_) | ((with_reducible apply W.condT); exact rfl) | ((with_reducible apply Done.f); (intro hh hh2; exact (nomatch hh2)); (focus ((repeat' first | exact all_nil | apply all_cons | exact res_cell rfl rfl (by first | exact rfl) | exact rfl); done)); (focus ((repeat' first | exact all_nil | apply all_cons | exact retOf_a rfl | exact rfl); done)); exact rfl; (focus ((repeat' first | exact outs_nil | apply outs_d | exact rfl); done))) | ((with_reducible apply WR.sb); (iterate 3 exact rfl); (exact i8_in _ (by omega))) | ((with_reducible apply WR.bC); iterate 3 exact rfl) | ((with_reducible apply WR.st); (iterate 3 exact rfl); exact st2) | ((with_reducible apply WR.bx); exact rfl; exact rfl; exact (by first | exact rfl); exact rfl) | ((with_reducible apply WR.al); exact rfl; exact rfl)
  all_goals rfl
theorem runs_beg {A : List Cel} (hA : ∀ c ∈ A, Has w h c.1 c.2) : runsL w h g A = ((A.filter fun c => decide (g (ix c) = 0)).filter fun c => decide (¬ Is w h g 0 (c.1 - 1) c.2)).map fun c => (c, (runAt w h g c : Int)) := by
  unfold runsL
  rw [List.filter_filter]
  congr 1
  apply List.filter_congr
  intro c hc
  have h1 := hA c hc
  rw [Bool.eq_iff_iff]
  rw [Bool.and_eq_true, decide_eq_true_eq, decide_eq_true_eq, decide_eq_true_eq]
  exact ⟨fun k => ⟨k.2, k.1.2⟩, fun k => ⟨⟨h1, k.2⟩, k.1⟩⟩
def begsL (w h : Int) (g : Nat → Int) (B : List Cel) : List Run := (B.filter fun c => decide (¬ Is w h g 0 (c.1 - 1) c.2)).map fun c => (c, (runAt w h g c : Int))
theorem begsL_snoc {A : List Cel} {i : Nat} (hi : i < A.length) : begsL w h g (A.take (i + 1)) = if Is w h g 0 ((gC A i).1 - 1) (gC A i).2 then begsL w h g (A.take i) else begsL w h g (A.take i) ++ [(gC A i, (runAt w h g (gC A i) : Int))] := by
  unfold begsL
  rw [List.take_add_one, gC_get hi, Option.toList_some, List.filter_append, List.map_append]
  by_cases hb : Is w h g 0 ((gC A i).1 - 1) (gC A i).2
  · rw [if_pos hb, List.filter_cons_of_neg (by simpa using hb)]; simp
  · rw [if_neg hb, List.filter_cons_of_pos (by simpa using hb)]; rfl
theorem begsL_len (A : List Cel) : (begsL w h g A).length ≤ A.length := by
  unfold begsL; rw [List.length_map]; exact List.length_filter_le ..
theorem l01Runs_gives (l : IsLawn w h g cs) (hs : 0 ≤ w ∧ w ≤ 10 ∧ 0 ≤ h ∧ h ≤ 10) : Gives G 451 [ar cs, ab true] (runsRes (runsL w h g (allC w h))) := by
  have hall := l01Cells_gives l 0 hs
  have hal : (ofKind w h g 0).length ≤ 100 := Nat.le_trans (List.length_filter_le ..) (allC_len (w := w) (h := h) (by omega))
  have hmem : ∀ c ∈ ofKind w h g 0, Has w h c.1 c.2 ∧ g (ix c) = 0 := fun c hc => ⟨allC_mem (List.mem_filter.1 hc).1, by simpa using (List.mem_filter.1 hc).2⟩
  rw [show runsL w h g (allC w h) = begsL w h g (ofKind w h g 0) from runs_beg (fun c hc => allC_mem hc)]
  generalize ofKind w h g 0 = A at hall hal hmem ⊢
  unfold runsRes
  refine Gives.by rfl rfl (W.seq ?_)
  repeat' first | ((with_reducible apply WR.c_o (f := 29) (fn := Code.f29)); (iterate 3 exact rfl); exact rfl; (focus ((repeat' first | exact args_nil | apply args_d | exact toD_d rfl | exact rfl); done)); exact hall; exact rfl) | ((with_reducible apply WR.mv); exact rfl; exact rfl) | (with_reducible first | apply WR.nil | refine andThen_n ?_ | refine W.seq ?_ | refine W.region ?_ | refine W.block ?_) | ((with_reducible apply WR.bT0); exact rfl; exact rfl)
  (refine (?_ : W _ (Code.loop _) _ _))
  (refine W.loopM [0, 1, 6] [] [8, 48, 49] (fun ((i, out) : (Nat) × (List Run)) => (A.length - i : Nat)) (fun ((i, out) : (Nat) × (List Run)) => (i ≤ A.length ∧ out = begsL w h g (A.take i) : Prop)) (fun z : (Nat) × (List Run) => match z with | (i, out) => [(5, .a (.sl 9 0 out.length 3)), (7, .a (.d (.s (.int .i64 (i : Nat)))))]) (fun z : (Nat) × (List Run) => match z with | (i, out) => [(9, .flat false (encX runC out)), (11, .flat false (encC A))]) (0, []) (⟨by omega, rfl⟩) ⟨rfl, rfl, trivial⟩ ⟨rfl, rfl, trivial⟩ ⟨np, np, np, trivial⟩ ?_)
  rintro ⟨i, out⟩ σ hP hN; dsimp only [setL, putL] at hP ⊢; obtain ⟨n8, hN⟩ := hN; obtain ⟨n48, hN⟩ := hN; obtain ⟨n49, hN⟩ := hN
  obtain ⟨hi, ho⟩ := hP
  by_cases hil : i < A.length
  · obtain ⟨hc, hk⟩ := hmem _ (gC_mem hil)
    have hgr : Is w h g 0 (gC A i).1 (gC A i).2 := ⟨hc, hk⟩
    simp only [Has] at hc
    have hsn := begsL_snoc (w := w) (h := h) (g := g) hil
    have hlo := begsL_len (w := w) (h := h) (g := g) (A.take i)
    rw [← ho] at hlo hsn
    rw [List.length_take] at hlo
    repeat' first | ((with_reducible apply WR.c_p (f := 51) (fn := Code.f51)); (iterate 3 exact rfl); exact rfl; (focus ((repeat' first | exact args_nil | apply args_d | exact toD_d rfl | exact rfl); done)); exact l01Grass_gives (by assumption) _ _ (by omega) (by omega)) | ((with_reducible apply WR.c_a (f := 461) (fn := Code.f461)); (iterate 3 exact rfl); exact rfl; (focus ((repeat' first | exact args_nil | apply args_d | exact toD_d rfl | exact rfl); done)); exact l01Back_gives _ _ _ (by omega)) | ((with_reducible first | apply WR.mv | apply WR.bTz | apply WR.le); exact rfl; exact rfl) | ((with_reducible apply WR.ld); (iterate 3 exact rfl); (first | exact ldC (by first | omega))) | (with_reducible first | apply WR.nil | refine andThen_n ?_ | refine andThen_x ?_ | refine inB_x ?_ | refine W.seq ?_ | refine W.region ?_ | refine W.skip ?_ | refine W.exit ?_ | refine W.block ?_) | ((with_reducible apply W.condT); exact rfl) | ((with_reducible apply W.condF); exact rfl) | (intro hb; try (exfalso; omega)) | ((with_reducible apply WR.ad); (iterate 3 exact rfl); (first | exact i64_in _ (by omega) | assumption)) | ((with_reducible apply WR.isn); (iterate 3 exact rfl); omega) | ((with_reducible apply WR.st); (iterate 3 exact rfl); exact storeAll (by first | assumption | exact rfl) (by first | assumption | exact rfl)) | ((with_reducible apply WR.lss); iterate 3 exact rfl) | ((with_reducible apply WR.al); exact rfl; (first | exact rfl | assumption))
    · rw [if_pos hb] at hsn
      (refine W.nxt (i + 1, out) (by first | omega | (dsimp only; omega)) ?_ ⟨rfl, rfl, trivial⟩ ⟨rfl, rfl, trivial⟩ ⟨rfl, rfl, rfl, trivial⟩ trivial ⟨np, np, np, trivial⟩); (try dsimp only)
      exact ⟨by omega, hsn.symm⟩
    · rw [if_neg hb] at hsn
      (refine (?_ : W _ (Code.loop _) _ _))
      (refine W.loopM [0, 1, 5, 6, 7, 8] [9, 11] [8, 48, 49] (fun n : (Nat) => (10 - n : Nat)) (fun n : (Nat) => ((gC A i).1 + n ≤ w ∧ runAt w h g ((gC A i).1 + n, (gC A i).2) + n = runAt w h g (gC A i) : Prop)) (fun n : (Nat) => []) (fun n : (Nat) => [(8, .flat false ([.int .i8 (gC A i).1, .int .i8 (gC A i).2, .int .i8 (n : Nat)]))]) 0 (⟨by omega, by simp⟩) trivial ⟨rfl, trivial⟩ ⟨np, np, np, trivial⟩ ?_)
      rintro n σ hP hN; dsimp only [setL, putL] at hP ⊢; obtain ⟨n8, hN⟩ := hN; obtain ⟨n48, hN⟩ := hN; obtain ⟨n49, hN⟩ := hN
      obtain ⟨hn1, hn2⟩ := hP
      repeat' first | ((with_reducible apply WH.c_p (f := 51) (fn := Code.f51)); (iterate 3 exact rfl); exact rfl; (focus ((repeat' first | exact args_nil | apply args_d | exact toD_d rfl | exact rfl); done)); exact l01Grass_gives (by assumption) _ _ (by omega) (by omega)) | ((with_reducible apply WH.c_a (f := 461) (fn := Code.f461)); (iterate 3 exact rfl); exact rfl; (focus ((repeat' first | exact args_nil | apply args_d | exact toD_d rfl | exact rfl); done)); exact l01Back_gives _ _ _ (by omega); exact rfl) | ((with_reducible first | apply WR.mv | apply WR.lx | apply WR.fa); exact rfl; exact rfl) | ((with_reducible first | apply WH.mv | apply WH.lx | apply WH.fa); iterate 3 exact rfl) | (with_reducible first | apply WR.nil | refine andThen_n ?_ | refine andThen_x ?_ | refine inB_n ?_ | refine inB_x ?_ | refine W.seq ?_ | refine W.region ?_ | refine W.skip ?_ | refine W.exit ?_ | refine W.block ?_ | apply WH.nil | refine W.draw ?_) | ((with_reducible apply W.condT); exact rfl) | ((with_reducible apply W.condF); exact rfl) | (intro hb; try (exfalso; omega)) | ((with_reducible apply WR.bT1); exact rfl; exact rfl; (first | exact rfl | assumption)) | ((with_reducible apply WR.ad); (iterate 3 exact rfl); (first | exact i64_in _ (by omega) | assumption | exact i8_in _ (by omega))) | ((with_reducible apply WR.st); iterate 4 exact rfl) | ((with_reducible apply WH.ld); (iterate 3 exact rfl); (first | exact ldC (by first | omega)); exact rfl) | ((with_reducible apply WR.apRn); (iterate 5 exact rfl); (omega)) | ((with_reducible apply WH.ng); exact rfl; exact rfl; (first | exact i64_in _ (by omega) | assumption | exact i8_in _ (by omega))) | ((with_reducible apply WH.isn); (iterate 3 exact rfl); omega; exact rfl)
      · have hb3 := hb
        rw [show (gC A i).1 - (0 - (n : Int)) = (gC A i).1 + n by omega] at hb3
        have hst := runAt_step (w := w) (h := h) (g := g) (x := (gC A i).1 + n) (y := (gC A i).2) (by have := hb3.1; omega)
        rw [if_pos hb3] at hst
        have hb4 := hb3
        simp only [Is] at hb4
        (refine W.nxt (n + 1) (by first | omega | (dsimp only; omega)) ?_ trivial ⟨rfl, trivial⟩ ⟨rfl, rfl, rfl, rfl, rfl, rfl, trivial⟩ ⟨rfl, rfl, trivial⟩ ⟨np, np, np, trivial⟩); (try dsimp only)
        refine ⟨by omega, ?_⟩
        rw [show (gC A i).1 + ((n + 1 : Nat) : Int) = (gC A i).1 + n + 1 by omega]
        omega
      · have hb3 := hb
        rw [show (gC A i).1 - (0 - (n : Int)) = (gC A i).1 + n by omega] at hb3
        have h0 : runAt w h g ((gC A i).1 + n, (gC A i).2) = 0 := by
          by_cases e : (gC A i).1 + n = w
          · rw [e]; exact runAt_end
          · have hst := runAt_step (w := w) (h := h) (g := g) (x := (gC A i).1 + n) (y := (gC A i).2) (by omega)
            rw [hst, if_neg hb3]
        have hnn : (n : Int) = (runAt w h g (gC A i) : Int) := by omega
        (refine W.nxt (i + 1, out ++ [(gC A i, (n : Int))]) (by first | omega | (dsimp only; omega)) ?_ ⟨rfl, rfl, trivial⟩ ⟨rfl, rfl, trivial⟩ ⟨rfl, rfl, rfl, trivial⟩ trivial ⟨np, np, np, trivial⟩); (try dsimp only)
        exact ⟨by omega, by rw [hsn, hnn]⟩
  · repeat' first | ((with_reducible first | apply WR.mv | apply WR.le); exact rfl; exact rfl) | (with_reducible first | apply WR.nil | refine andThen_n ?_ | refine andThen_x ?_ | refine inB_x ?_ | refine W.seq ?_ | refine W.region ?_ | refine W.ret ?_ | refine W.exit ?_) | ((with_reducible apply W.condF); exact rfl) | ((with_reducible apply Done.f); (intro hh hh2; exact (nomatch hh2)); (focus ((repeat' first | exact all_nil | apply all_cons | exact res_tmp rfl); done)); (focus ((repeat' first | exact all_nil | apply all_cons | exact retOf_o rfl rfl (by first | exact encX_length runC_len _)); done)); exact rfl; (focus ((repeat' first | exact outs_nil | apply outs_d); done))) | (intro hb; try (exfalso; omega)) | ((with_reducible apply WR.lss); iterate 3 exact rfl)
    rw [ho, List.take_of_length_le (by omega)]; rfl
theorem runsOfS_gives (l : IsLawn w h g cs) (hok : LawnOk w h g) : Gives G 443 [aa cs, ab true] (runs2Res (runsL w h g (allC w h))) := by
  have hs := hok.1
  have hs2 := hok.2.1
  have h1 := l01Runs_gives l (by omega)
  have h2 := l01Ok_gives l
  rw [decide_eq_true hok] at h2
  unfold runsRes at h1
  unfold runs2Res
  generalize runsL w h g (allC w h) = L at h1 ⊢
  refine Gives.by rfl rfl (W.seq ?_)
  repeat' first | ((with_reducible apply WR.c_s (f := 28) (fn := Code.f28)); (iterate 3 exact rfl); exact rfl; (focus ((repeat' first | exact args_nil | apply args_d | exact toD_d rfl | exact toD_ptr rfl rfl | exact all_nil | apply all_cons | exact rfl); done)); exact h2) | ((with_reducible apply WR.c_o (f := 451) (fn := Code.f451)); (iterate 3 exact rfl); exact rfl; (focus ((repeat' first | exact args_nil | apply args_d | exact toD_d rfl | exact toD_ptr rfl rfl | exact all_nil | apply all_cons | exact rfl); done)); exact h1; exact rfl) | ((with_reducible first | apply WR.mv | apply WR.un); exact rfl; exact rfl) | (with_reducible first | apply WR.nil | refine andThen_n ?_ | refine W.seq ?_ | refine W.region ?_ | refine W.skip ?_ | refine W.ret ?_) | ((with_reducible apply W.condF); exact rfl) | ((with_reducible apply Done.f); (intro hh hh2; exact (nomatch hh2)); (focus ((repeat' first | exact all_nil | apply all_cons | exact res_tmp rfl | exact rfl); done)); (focus ((repeat' first | exact all_nil | apply all_cons | exact retOf_s rfl | exact retOf_o rfl rfl (by first | exact encX_length runC_len _ | exact IsLawn.len (by assumption) | exact rfl) | exact rfl); done)); exact rfl; (focus ((repeat' first | exact outs_nil | apply outs_d | exact rfl); done))) | ((with_reducible apply WR.bx); exact rfl; exact rfl; exact (by first | exact encX_length runC_len _ | exact IsLawn.len (by assumption) | exact rfl); exact rfl)
  rfl
end Go.DM
