/- Robots that clash: what is drawn; the first clash, on both sides. -/
import Derived.Test.YtaocbbdkiemhaaaK357Src
import Derived.Test.YtaocbbdkiemhaaaK357Delay
set_option linter.unusedSimpArgs false
set_option linter.unusedVariables false
set_option maxHeartbeats 4000000
namespace Go.DM
set_option linter.unusedSectionVars false
variable [Tok]
open Go.IntWalk
variable {w h : Int} {g : Nat → Int} {cs : List S}

/-- The cell beside, by a direction. -/
def nxC (c : Cel) (k : Int) : Cel := if k = 0 then (c.1, c.2 - 1) else if k = 1 then (c.1 + 1, c.2) else if k = 2 then (c.1, c.2 + 1) else (c.1 - 1, c.2)
theorem l04Next_gives (c : Cel) (k : Int) (hc : 0 ≤ c.1 ∧ c.1 < 10 ∧ 0 ≤ c.2 ∧ c.2 < 10) : Gives G 305 [ac c.1 c.2, ai .i64 k] ⟨[.agg [.int .i8 (nxC c k).1, .int .i8 (nxC c k).2]], []⟩ := by
  refine Gives.by rfl rfl (W.seq ?_)
  repeat' first | ((with_reducible apply WR.fa); exact rfl; exact rfl) | ((with_reducible apply WR.ld); exact rfl; exact rfl; exact rfl; (first | exact ld2)) | ((with_reducible apply WR.lx); exact rfl; exact rfl) | ((with_reducible apply WR.st); exact rfl; exact rfl; exact rfl; exact st2) | ((with_reducible apply WR.st); exact rfl; exact rfl; exact rfl; exact rfl) | ((with_reducible apply WR.mv); exact rfl; exact rfl) | ((with_reducible apply WR.eql); exact rfl; exact rfl; exact rfl) | ((with_reducible apply WR.nil)) | (with_reducible refine andThen_n ?_) | (with_reducible refine inB_n ?_) | (with_reducible refine W.seq ?_) | (with_reducible refine W.region ?_) | (with_reducible refine W.ret ?_) | (with_reducible refine W.block ?_) | ((with_reducible apply W.condT); exact rfl) | ((with_reducible apply W.condF); exact rfl) | ((with_reducible apply Done.f); (intro hh hh2; exact (nomatch hh2)); (focus ((repeat' first | exact all_nil | apply all_cons | exact res_cell rfl rfl (by first | exact rfl) | exact rfl); done)); (focus ((repeat' first | exact all_nil | apply all_cons | exact retOf_a rfl | exact rfl); done)); exact rfl; (focus ((repeat' first | exact outs_nil | apply outs_d | exact rfl); done))) | (intro hb; try (exfalso; omega)) | ((with_reducible apply WR.ad); exact rfl; exact rfl; exact rfl; (first | exact i8_in _ (by omega))) | ((with_reducible apply WR.sb); exact rfl; exact rfl; exact rfl; (first | exact i8_in _ (by omega))) | ((with_reducible apply WR.bx); exact rfl; exact rfl; exact (by first | exact rfl); (first | exact rfl)) | ((with_reducible apply WR.al); exact rfl; (first | exact rfl))
  · have e := (by assumption : k = 0)
    simp only [nxC, if_pos e]; rfl
  · have e := (by assumption : ¬ k = 0)
    have e1 := (by assumption : k = 1)
    simp only [nxC, if_neg e, if_pos e1]; rfl
  · have e := (by assumption : ¬ k = 0)
    have e1 := (by assumption : ¬ k = 1)
    have e2 := (by assumption : k = 2)
    simp only [nxC, if_neg e, if_neg e1, if_pos e2]; rfl
  · have e := (by assumption : ¬ k = 0)
    have e1 := (by assumption : ¬ k = 1)
    have e2 := (by assumption : ¬ k = 2)
    simp only [nxC, if_neg e, if_neg e1, if_neg e2]; rfl
theorem nxC_bes (c : Cel) (k : Int) : Bes c (nxC c k) := by
  obtain ⟨x, y⟩ := c
  unfold nxC Bes
  split
  · simp; omega
  · split
    · simp; omega
    · split
      · simp; omega
      · simp; omega
theorem bes_self (c : Cel) : Bes c c := by unfold Bes; simp
theorem p6open_gives (l : IsLawn w h g cs) (hL : LawnOk w h g) (i : Nat) (hl : (Tok.dat i).length ≤ 1000000000) :
    ∃ r : Res, (∃ (c : Cel) (b : Bool), (b = true → Opn w h g c.1 c.2) ∧ (b = false → those w h (fun c => Opn w h g c.1 c.2) = []) ∧ r = ⟨[.agg [.int .i8 c.1, .int .i8 c.2], .s (.bool b)], []⟩) ∧ Gives G 368 [.d (.s (.tok i)), aa cs] r := by
  have hs := hL.1
  have hs2 := hL.2.1
  have ho := from_gives i
  have hA := allC_len (w := w) (h := h) (by omega)
  have hmem := fun c => allC_mem (w := w) (h := h) (c := c)
  have hal := l01All_gives l (by omega)
  have hth : those w h (fun c => Opn w h g c.1 c.2) = (allC w h).filter fun c => decide (Opn w h g c.1 c.2) := rfl
  rw [hth]
  generalize allC w h = A at hA hmem hal ⊢
  refine GivesP.by rfl rfl (W.seq ?_)
  repeat' first | ((with_reducible apply WR.c_n (f := 375) (fn := Code.f375)); exact rfl; exact rfl; exact rfl; (first | exact rfl); (focus ((repeat' first | exact args_nil | apply args_d | exact toD_d rfl | exact toD_ptr rfl rfl | exact rfl); done)); exact ho; (first | exact rfl)) | ((with_reducible apply WR.c_o (f := 60) (fn := Code.f60)); exact rfl; exact rfl; exact rfl; (first | exact rfl); (focus ((repeat' first | exact args_nil | apply args_d | exact toD_d rfl | exact toD_ptr rfl rfl | exact rfl); done)); exact hal; (first | exact rfl)) | ((with_reducible apply WR.mv); exact rfl; exact rfl) | ((with_reducible apply WR.nil)) | (with_reducible refine andThen_n ?_) | (with_reducible refine W.seq ?_) | (with_reducible refine W.region ?_) | (with_reducible refine W.block ?_) | ((with_reducible apply WR.bs0); exact rfl; (first | exact rfl)) | ((with_reducible apply WR.bx); exact rfl; exact rfl; exact (by first | exact IsLawn.len (by assumption) | exact rfl); (first | exact rfl)) | ((with_reducible apply WR.al); exact rfl; (first | exact rfl))
  (refine (?_ : W _ (Code.loop _) _ _))
  (refine W.loopM [3, 4, 6, 8] [3, 4, 11, 13] [30, 31] (fun zz : (Nat) × (List Cel) => match zz with | (k, out) => (A.length - k : Nat)) (fun zz : (Nat) × (List Cel) => match zz with | (k, out) => (k ≤ A.length ∧ out.length ≤ k ∧ out = (A.take k).filter fun c => decide (Opn w h g c.1 c.2) : Prop)) (fun zz : (Nat) × (List Cel) => match zz with | (k, out) => [(7, .a (.sl 12 0 out.length 2)), (9, .a (.d (.s (.int .i64 (k : Nat)))))]) (fun zz : (Nat) × (List Cel) => match zz with | (k, out) => [(12, .flat false (encC out))]) (0, []) (⟨by omega, by simp, by simp⟩) ⟨rfl, rfl, trivial⟩ ⟨rfl, trivial⟩ ⟨(by (repeat' first | exact rfl | assumption | (with_reducible apply noPar_set) | ((with_reducible apply noPar_puto); exact rfl) | (with_reducible apply noPar_put) | (with_reducible apply noPar_putv) | (with_reducible apply noPar_putm) | (with_reducible apply noPar_putr) | (with_reducible apply noPar_kill) | ((with_reducible apply noPar_mix); exact rfl) | ((with_reducible apply noPar_mixT); exact rfl)); done), (by (repeat' first | exact rfl | assumption | (with_reducible apply noPar_set) | ((with_reducible apply noPar_puto); exact rfl) | (with_reducible apply noPar_put) | (with_reducible apply noPar_putv) | (with_reducible apply noPar_putm) | (with_reducible apply noPar_putr) | (with_reducible apply noPar_kill) | ((with_reducible apply noPar_mix); exact rfl) | ((with_reducible apply noPar_mixT); exact rfl)); done), trivial⟩ ?_)
  rintro ⟨k, out⟩ σ hP hN; dsimp only [setL, putL] at hP ⊢; obtain ⟨n30, hN⟩ := hN; obtain ⟨n31, hN⟩ := hN
  obtain ⟨hk, hol, hout⟩ := hP
  by_cases hka : k < A.length
  · have hc := hmem _ (gC_mem (l := A) (k := k) hka)
    have hc' := hc
    simp only [Has] at hc
    have hst := filter_snoc (p := fun c => decide (Opn w h g c.1 c.2)) (gC_get (l := A) (k := k) hka)
    rw [← hout] at hst
    repeat' first | ((with_reducible apply WR.c_p (f := 72) (fn := Code.f72)); exact rfl; exact rfl; exact rfl; (first | exact rfl); (focus ((repeat' first | exact args_nil | apply args_d | exact toD_d rfl | exact toD_ptr rfl rfl | exact rfl); done)); exact l01Open_gives l _ _ (by omega)) | ((with_reducible apply WR.mv); exact rfl; exact rfl) | ((with_reducible apply WR.isn); exact rfl; exact rfl; exact rfl; omega) | ((with_reducible apply WR.ld); exact rfl; exact rfl; exact rfl; (first | exact ldC (by first | omega))) | ((with_reducible apply WR.le); exact rfl; exact rfl) | ((with_reducible apply WR.nil)) | (with_reducible refine andThen_n ?_) | (with_reducible refine inB_n ?_) | (with_reducible refine W.seq ?_) | (with_reducible refine W.region ?_) | (with_reducible refine W.skip ?_) | (with_reducible refine W.block ?_) | ((with_reducible apply W.condT); exact rfl) | ((with_reducible apply W.condF); exact rfl) | (intro hb; try (exfalso; omega)) | ((with_reducible apply WR.bs1); exact rfl; exact rfl; (first | exact rfl | assumption)) | ((with_reducible apply WR.lss); exact rfl; exact rfl; exact rfl) | ((with_reducible apply WR.ad); exact rfl; exact rfl; exact rfl; (first | exact i64_in _ (by omega) | assumption)) | ((with_reducible apply WR.apC); exact rfl; exact rfl; exact rfl; exact rfl; omega)
    · rw [if_pos (by simpa using (show Opn w h g (gC A k).1 (gC A k).2 from ⟨hc', by assumption⟩))] at hst
      (refine W.nxt (k + 1, out ++ [gC A k]) (by first | omega | (dsimp only; omega)) ?_ ⟨rfl, rfl, trivial⟩ ⟨rfl, trivial⟩ ⟨rfl, rfl, rfl, rfl, trivial⟩ ⟨rfl, rfl, rfl, rfl, trivial⟩ ⟨(by (repeat' first | exact rfl | assumption | (with_reducible apply noPar_set) | ((with_reducible apply noPar_puto); exact rfl) | (with_reducible apply noPar_put) | (with_reducible apply noPar_putv) | (with_reducible apply noPar_putm) | (with_reducible apply noPar_putr) | (with_reducible apply noPar_kill) | ((with_reducible apply noPar_mix); exact rfl) | ((with_reducible apply noPar_mixT); exact rfl)); done), (by (repeat' first | exact rfl | assumption | (with_reducible apply noPar_set) | ((with_reducible apply noPar_puto); exact rfl) | (with_reducible apply noPar_put) | (with_reducible apply noPar_putv) | (with_reducible apply noPar_putm) | (with_reducible apply noPar_putr) | (with_reducible apply noPar_kill) | ((with_reducible apply noPar_mix); exact rfl) | ((with_reducible apply noPar_mixT); exact rfl)); done), trivial⟩); (try dsimp only)
      exact ⟨by omega, by simp; omega, hst.symm⟩
    · rw [if_neg (by simpa using (show ¬ Opn w h g (gC A k).1 (gC A k).2 from fun q => absurd q.2 (by assumption))), List.append_nil] at hst
      (refine W.nxt (k + 1, out) (by first | omega | (dsimp only; omega)) ?_ ⟨rfl, rfl, trivial⟩ ⟨rfl, trivial⟩ ⟨rfl, rfl, rfl, rfl, trivial⟩ ⟨rfl, rfl, rfl, rfl, trivial⟩ ⟨(by (repeat' first | exact rfl | assumption | (with_reducible apply noPar_set) | ((with_reducible apply noPar_puto); exact rfl) | (with_reducible apply noPar_put) | (with_reducible apply noPar_putv) | (with_reducible apply noPar_putm) | (with_reducible apply noPar_putr) | (with_reducible apply noPar_kill) | ((with_reducible apply noPar_mix); exact rfl) | ((with_reducible apply noPar_mixT); exact rfl)); done), (by (repeat' first | exact rfl | assumption | (with_reducible apply noPar_set) | ((with_reducible apply noPar_puto); exact rfl) | (with_reducible apply noPar_put) | (with_reducible apply noPar_putv) | (with_reducible apply noPar_putm) | (with_reducible apply noPar_putr) | (with_reducible apply noPar_kill) | ((with_reducible apply noPar_mix); exact rfl) | ((with_reducible apply noPar_mixT); exact rfl)); done), trivial⟩); (try dsimp only)
      exact ⟨by omega, by omega, hst.symm⟩
  · rw [List.take_of_length_le (by omega)] at hout
    rw [← hout]
    by_cases h0 : out.length = 0
    · have h00 := List.eq_nil_of_length_eq_zero h0
      repeat' first | ((with_reducible apply WR.mv); exact rfl; exact rfl) | ((with_reducible apply WR.le); exact rfl; exact rfl) | ((with_reducible apply WR.nil)) | (with_reducible refine andThen_n ?_) | (with_reducible refine andThen_x ?_) | (with_reducible refine andThen_r ?_) | (with_reducible refine inB_x ?_) | (with_reducible refine W.seq ?_) | (with_reducible refine W.region ?_) | (with_reducible refine W.ret ?_) | (with_reducible refine W.exit ?_) | ((with_reducible apply W.condT); exact rfl) | ((with_reducible apply W.condF); exact rfl) | (intro hb; try (exfalso; omega)) | ((with_reducible apply WR.st); exact rfl; exact rfl; exact rfl; exact st2) | ((with_reducible apply WR.lss); exact rfl; exact rfl; exact rfl) | ((with_reducible apply WR.eql); exact rfl; exact rfl; exact rfl) | ((with_reducible apply WR.bu); exact rfl; exact rfl)
      apply DoneP.mk
      · repeat' first | ((with_reducible apply Done.f); (intro hh hh2; exact (nomatch hh2)); (focus ((repeat' first | exact all_nil | apply all_cons | exact res_tmp rfl | exact res_cell rfl rfl (by first | exact rfl) | exact rfl); done)); (focus ((repeat' first | exact all_nil | apply all_cons | exact retOf_s rfl | exact retOf_a rfl | exact rfl); done)); exact rfl; (focus ((repeat' first | exact outs_nil | apply outs_d | exact rfl); done)))
        rfl
      · exact ⟨(0, 0), false, by simp, fun _ => h00, rfl⟩
    · obtain ⟨r3, n3, s3, a3, _, b3, c3, g3⟩ := pick_gives i 0 0 out.length (by omega) hl (by omega)
      obtain ⟨r, rfl⟩ : ∃ r : Nat, r3 = r := ⟨r3.toNat, by omega⟩
      have hro := gC_mem (l := out) (k := r) (by omega)
      rw [hout] at hro
      have hopn : Opn w h g (gC out r).1 (gC out r).2 := by
        have := (List.mem_filter.1 hro).2
        rw [← hout] at this
        simpa using this
      repeat' first | ((with_reducible apply WR.c_ws (f := 377) (fn := Code.f377)); exact rfl; exact rfl; exact rfl; (focus ((repeat' first | exact args_nil | apply args_d | (apply args_p; exact rfl; exact rfl) | exact toD_d rfl | exact rfl); done)); exact g3; (focus ((repeat' first | exact backs_no | (apply backs_p; exact rfl; exact rfl; exact (by first | exact rfl)) | exact rfl); done)); dsimp only [insertAll]) | ((with_reducible apply WR.mv); exact rfl; exact rfl) | ((with_reducible apply WR.isn); exact rfl; exact rfl; exact rfl; omega) | ((with_reducible apply WR.ld); exact rfl; exact rfl; exact rfl; (first | exact ldC (by first | omega))) | ((with_reducible apply WR.le); exact rfl; exact rfl) | ((with_reducible apply WR.nil)) | (with_reducible refine andThen_n ?_) | (with_reducible refine andThen_x ?_) | (with_reducible refine inB_x ?_) | (with_reducible refine W.seq ?_) | (with_reducible refine W.region ?_) | (with_reducible refine W.skip ?_) | (with_reducible refine W.ret ?_) | (with_reducible refine W.exit ?_) | ((with_reducible apply W.condF); exact rfl) | (intro hb; try (exfalso; omega)) | ((with_reducible apply WR.st); exact rfl; exact rfl; exact rfl; exact st2) | ((with_reducible apply WR.lss); exact rfl; exact rfl; exact rfl) | ((with_reducible apply WR.eql); exact rfl; exact rfl; exact rfl)
      apply DoneP.mk
      · repeat' first | ((with_reducible apply Done.f); (intro hh hh2; exact (nomatch hh2)); (focus ((repeat' first | exact all_nil | apply all_cons | exact res_tmp rfl | exact res_cell rfl rfl (by first | exact rfl) | exact rfl); done)); (focus ((repeat' first | exact all_nil | apply all_cons | exact retOf_s rfl | exact retOf_a rfl | exact rfl); done)); exact rfl; (focus ((repeat' first | exact outs_nil | apply outs_d | exact rfl); done)))
        rfl
      · exact ⟨gC out r, true, fun _ => hopn, by simp, rfl⟩
theorem WalkOk.snoc {L : List Cel} (hw : WalkOk w h g L) {c : Cel} (hc : Opn w h g c.1 c.2) (hb : Bes (gC L (L.length - 1)) c) : WalkOk w h g (L ++ [c]) := by
  have hp := hw.2
  have hg : ∀ i, i < L.length → gC (L ++ [c]) i = gC L i := fun i hi => gC_left hi
  have hl : gC (L ++ [c]) L.length = c := by simp [gC, List.getD_eq_getElem?_getD]
  refine ⟨fun i hi => ?_, by simp⟩
  rw [List.length_append, List.length_singleton] at hi
  by_cases e : i < L.length
  · have h0 := hw.1 i e
    unfold GoodAt at h0 ⊢
    rw [hg i e]
    refine ⟨h0.1, fun hi0 => ?_⟩
    rw [hg (i - 1) (by omega)]
    exact h0.2 hi0
  · obtain rfl : i = L.length := by omega
    unfold GoodAt
    rw [hl, hg (L.length - 1) (by omega)]
    exact ⟨hc, fun _ => hb⟩
theorem walkOk_one {c : Cel} (hc : Opn w h g c.1 c.2) : WalkOk w h g [c] :=
  ⟨fun i hi => by
    have : i = 0 := by simp at hi; omega
    subst this
    exact ⟨hc, fun h0 => by omega⟩, by simp⟩
theorem p6walk_gives (l : IsLawn w h g cs) (hL : LawnOk w h g) (i : Nat) (hl : (Tok.dat i).length ≤ 1000000000) (a : Cel) (ha : Opn w h g a.1 a.2) :
    ∃ r : Res, (∃ L : List Cel, WalkOk w h g L ∧ L.length ≤ 10 ∧ gC L 0 = a ∧ r = ⟨[.own L.length 2 (encC L)], []⟩) ∧ Gives G 370 [.d (.s (.tok i)), aa cs, ac a.1 a.2] r := by
  have hs := hL.1
  have hs2 := hL.2.1
  have ho := from_gives i
  obtain ⟨r1, n1, s1, a1, _, b1, c1, g1⟩ := pick_gives i 0 0 10 (by omega) hl (by omega)
  refine GivesP.by rfl rfl (W.seq ?_)
  repeat' first | ((with_reducible apply WR.c_n (f := 375) (fn := Code.f375)); exact rfl; exact rfl; exact rfl; (first | exact rfl | exact backs_no); (focus ((repeat' first | exact args_nil | apply args_d | (apply args_p; exact rfl; exact rfl) | exact toD_d rfl | exact rfl); done)); exact ho; (first | exact rfl)) | ((with_reducible apply WR.c_ws (f := 377) (fn := Code.f377)); exact rfl; exact rfl; exact rfl; (focus ((repeat' first | exact args_nil | apply args_d | (apply args_p; exact rfl; exact rfl) | exact toD_d rfl | exact rfl); done)); exact g1; (focus ((repeat' first | exact backs_no | (apply backs_p; exact rfl; exact rfl; exact (by first | exact IsLawn.len (by assumption) | exact rfl)) | exact rfl); done)); dsimp only [insertAll]) | ((with_reducible apply WR.mv); exact rfl; exact rfl) | ((with_reducible apply WR.ld); exact rfl; exact rfl; exact rfl; (first | exact ld2)) | ((with_reducible apply WR.nil)) | (with_reducible refine andThen_n ?_) | (with_reducible refine W.seq ?_) | (with_reducible refine W.region ?_) | (with_reducible refine W.block ?_) | ((with_reducible apply WR.bx); exact rfl; exact rfl; exact (by first | exact IsLawn.len (by assumption) | exact rfl); (first | exact rfl)) | ((with_reducible apply WR.bs1); exact rfl; exact rfl; (first | exact rfl))
  (refine (?_ : W _ (Code.loop _) _ _))
  (refine W.loopM [4, 5, 7] [4] [10, 30, 31] (fun zz : (Int) × (Nat) × (Int) × (Cel) × (List Cel) => match zz with | (k, n, sd, at_, out) => (k.toNat : Nat)) (fun zz : (Int) × (Nat) × (Int) × (Cel) × (List Cel) => match zz with | (k, n, sd, at_, out) => ((0 ≤ k ∧ k ≤ 9 ∧ (out.length : Int) + k ≤ 10 ∧ (n : Int) + k ≤ 20) ∧ Opn w h g at_.1 at_.2 ∧ WalkOk w h g out ∧ gC out (out.length - 1) = at_ ∧ gC out 0 = a : Prop)) (fun zz : (Int) × (Nat) × (Int) × (Cel) × (List Cel) => match zz with | (k, n, sd, at_, out) => [(8, .a (.sl 14 0 out.length 2)), (9, .a (.d (.s (.int .i64 k))))]) (fun zz : (Int) × (Nat) × (Int) × (Cel) × (List Cel) => match zz with | (k, n, sd, at_, out) => [(5, .flat false ([.int .i8 at_.1, .int .i8 at_.2])), (12, .flat false (srcC i n sd)), (14, .flat false (encC out))]) (r1, n1, s1, a, [a]) (⟨⟨by omega, by omega, by simp; omega, by omega⟩, ha, walkOk_one ha, rfl, rfl⟩) ⟨rfl, rfl, trivial⟩ ⟨rfl, rfl, rfl, trivial⟩ ⟨(by (repeat' first | exact rfl | assumption | (with_reducible apply noPar_set) | ((with_reducible apply noPar_puto); exact rfl) | (with_reducible apply noPar_put) | (with_reducible apply noPar_putv) | (with_reducible apply noPar_putm) | (with_reducible apply noPar_putr) | (with_reducible apply noPar_kill) | ((with_reducible apply noPar_mix); exact rfl) | ((with_reducible apply noPar_mixT); exact rfl)); done), (by (repeat' first | exact rfl | assumption | (with_reducible apply noPar_set) | ((with_reducible apply noPar_puto); exact rfl) | (with_reducible apply noPar_put) | (with_reducible apply noPar_putv) | (with_reducible apply noPar_putm) | (with_reducible apply noPar_putr) | (with_reducible apply noPar_kill) | ((with_reducible apply noPar_mix); exact rfl) | ((with_reducible apply noPar_mixT); exact rfl)); done), (by (repeat' first | exact rfl | assumption | (with_reducible apply noPar_set) | ((with_reducible apply noPar_puto); exact rfl) | (with_reducible apply noPar_put) | (with_reducible apply noPar_putv) | (with_reducible apply noPar_putm) | (with_reducible apply noPar_putr) | (with_reducible apply noPar_kill) | ((with_reducible apply noPar_mix); exact rfl) | ((with_reducible apply noPar_mixT); exact rfl)); done), trivial⟩ ?_)
  rintro ⟨k, n, sd, at_, out⟩ σ hP hN; dsimp only [setL, putL] at hP ⊢; obtain ⟨n10, hN⟩ := hN; obtain ⟨n30, hN⟩ := hN; obtain ⟨n31, hN⟩ := hN
  obtain ⟨⟨hk, hk9, hkl, hkn⟩, hat, hwk, hlast, hfst⟩ := hP
  by_cases hk0 : 0 < k
  · obtain ⟨r4, n4, s4, a4, _, b4, c4, g4⟩ := pick_gives i n sd 4 (by omega) hl (by omega)
    have hh := hat.1
    simp only [Has] at hh
    have hnx := l04Next_gives at_ r4 (by omega)
    have hbes := nxC_bes at_ r4
    have hib : -128 ≤ (nxC at_ r4).1 ∧ (nxC at_ r4).1 ≤ 127 ∧ -128 ≤ (nxC at_ r4).2 ∧ (nxC at_ r4).2 ≤ 127 := by
      unfold nxC
      repeat' split
      all_goals (simp only; omega)
    generalize nxC at_ r4 = nx at hnx hbes hib
    have hlen := hwk.2
    have hf0 : ∀ c, gC (out ++ [c]) 0 = a := fun c => by rw [gC_left hlen, hfst]
    have hla : ∀ c, gC (out ++ [c]) ((out ++ [c]).length - 1) = c := fun c => by simp [gC, List.getD_eq_getElem?_getD]
    repeat' first | ((with_reducible apply WH.c_ws (f := 377) (fn := Code.f377)); exact rfl; exact rfl; exact rfl; (focus ((repeat' first | exact args_nil | apply args_d | (apply args_p; exact rfl; exact rfl) | exact toD_d rfl | exact toD_ptr rfl rfl | exact rfl); done)); exact g4; (focus ((repeat' first | exact backs_no | (apply backs_p; exact rfl; exact rfl; exact (by first | assumption | exact rfl)) | exact rfl); done)); exact rfl; exact rfl; dsimp only [insertAll]) | ((with_reducible apply WH.c_a (f := 305) (fn := Code.f305)); exact rfl; exact rfl; exact rfl; (first | exact rfl | exact backs_no); (focus ((repeat' first | exact args_nil | apply args_d | (apply args_p; exact rfl; exact rfl) | exact toD_d rfl | exact toD_ptr rfl rfl | exact rfl); done)); exact hnx; exact rfl) | ((with_reducible apply WR.c_p (f := 186) (fn := Code.f186)); exact rfl; exact rfl; exact rfl; (first | exact rfl | exact backs_no); (focus ((repeat' first | exact args_nil | apply args_d | (apply args_p; exact rfl; exact rfl) | exact toD_d rfl | exact toD_ptr rfl rfl | exact rfl); done)); exact l04OpenW_gives l _ _ (by omega) hib) | ((with_reducible apply WR.mv); exact rfl; exact rfl) | ((with_reducible apply WR.ld); exact rfl; exact rfl; exact rfl; (first | exact ld2)) | ((with_reducible apply WR.nil)) | (with_reducible refine andThen_n ?_) | (with_reducible refine inB_n ?_) | (with_reducible refine W.seq ?_) | (with_reducible refine W.region ?_) | (with_reducible refine W.skip ?_) | (with_reducible refine W.block ?_) | ((with_reducible apply W.condT); exact rfl) | ((with_reducible apply W.condF); exact rfl) | ((with_reducible apply WH.nil)) | (with_reducible refine W.draw ?_) | (intro hb; try (exfalso; omega)) | ((with_reducible apply WR.bs1); exact rfl; exact rfl; (first | exact rfl | assumption | (focus ((repeat' first | exact rfl | assumption | (with_reducible apply noPar_set) | ((with_reducible apply noPar_puto); exact rfl) | (with_reducible apply noPar_kill)); done)))) | ((with_reducible apply WR.gtr); exact rfl; exact rfl; exact rfl) | ((with_reducible apply WR.sb); exact rfl; exact rfl; exact rfl; (first | exact i64_in _ (by omega) | assumption)) | ((with_reducible apply WR.st); exact rfl; exact rfl; exact rfl; exact st2) | ((with_reducible apply WR.apC); exact rfl; exact rfl; exact rfl; exact rfl; omega) | ((with_reducible apply WH.mv); exact rfl; exact rfl; exact rfl) | ((with_reducible apply WH.ld); exact rfl; exact rfl; exact rfl; (first | exact ld2); exact rfl) | ((with_reducible apply WH.al); exact rfl; (first | exact rfl | assumption | (focus ((repeat' first | exact rfl | assumption | (with_reducible apply noPar_set) | ((with_reducible apply noPar_puto); exact rfl) | (with_reducible apply noPar_kill)); done))); exact rfl; exact rfl) | ((with_reducible apply WH.st); exact rfl; exact rfl; exact rfl; exact st2; exact rfl; exact rfl)
    · (refine W.nxt (k - 1, n4, s4, nx, out ++ [nx]) (by first | omega | (dsimp only; omega)) ?_ ⟨rfl, rfl, trivial⟩ ⟨rfl, rfl, rfl, trivial⟩ ⟨rfl, rfl, rfl, trivial⟩ ⟨rfl, trivial⟩ ⟨(by (repeat' first | exact rfl | assumption | (with_reducible apply noPar_set) | ((with_reducible apply noPar_puto); exact rfl) | (with_reducible apply noPar_put) | (with_reducible apply noPar_putv) | (with_reducible apply noPar_putm) | (with_reducible apply noPar_putr) | (with_reducible apply noPar_kill) | ((with_reducible apply noPar_mix); exact rfl) | ((with_reducible apply noPar_mixT); exact rfl)); done), (by (repeat' first | exact rfl | assumption | (with_reducible apply noPar_set) | ((with_reducible apply noPar_puto); exact rfl) | (with_reducible apply noPar_put) | (with_reducible apply noPar_putv) | (with_reducible apply noPar_putm) | (with_reducible apply noPar_putr) | (with_reducible apply noPar_kill) | ((with_reducible apply noPar_mix); exact rfl) | ((with_reducible apply noPar_mixT); exact rfl)); done), (by (repeat' first | exact rfl | assumption | (with_reducible apply noPar_set) | ((with_reducible apply noPar_puto); exact rfl) | (with_reducible apply noPar_put) | (with_reducible apply noPar_putv) | (with_reducible apply noPar_putm) | (with_reducible apply noPar_putr) | (with_reducible apply noPar_kill) | ((with_reducible apply noPar_mix); exact rfl) | ((with_reducible apply noPar_mixT); exact rfl)); done), trivial⟩); (try dsimp only)
      exact ⟨⟨by omega, by omega, by simp; omega, by omega⟩, by assumption, hwk.snoc (by assumption) (by rw [hlast]; exact hbes), hla _, hf0 _⟩
    · (refine W.nxt (k - 1, n4, s4, at_, out ++ [at_]) (by first | omega | (dsimp only; omega)) ?_ ⟨rfl, rfl, trivial⟩ ⟨rfl, rfl, rfl, trivial⟩ ⟨rfl, rfl, rfl, trivial⟩ ⟨rfl, trivial⟩ ⟨(by (repeat' first | exact rfl | assumption | (with_reducible apply noPar_set) | ((with_reducible apply noPar_puto); exact rfl) | (with_reducible apply noPar_put) | (with_reducible apply noPar_putv) | (with_reducible apply noPar_putm) | (with_reducible apply noPar_putr) | (with_reducible apply noPar_kill) | ((with_reducible apply noPar_mix); exact rfl) | ((with_reducible apply noPar_mixT); exact rfl)); done), (by (repeat' first | exact rfl | assumption | (with_reducible apply noPar_set) | ((with_reducible apply noPar_puto); exact rfl) | (with_reducible apply noPar_put) | (with_reducible apply noPar_putv) | (with_reducible apply noPar_putm) | (with_reducible apply noPar_putr) | (with_reducible apply noPar_kill) | ((with_reducible apply noPar_mix); exact rfl) | ((with_reducible apply noPar_mixT); exact rfl)); done), (by (repeat' first | exact rfl | assumption | (with_reducible apply noPar_set) | ((with_reducible apply noPar_puto); exact rfl) | (with_reducible apply noPar_put) | (with_reducible apply noPar_putv) | (with_reducible apply noPar_putm) | (with_reducible apply noPar_putr) | (with_reducible apply noPar_kill) | ((with_reducible apply noPar_mix); exact rfl) | ((with_reducible apply noPar_mixT); exact rfl)); done), trivial⟩); (try dsimp only)
      exact ⟨⟨by omega, by omega, by simp; omega, by omega⟩, hat, hwk.snoc hat (by rw [hlast]; exact bes_self _), hla _, hf0 _⟩
  · have hel : (encC out).length = out.length * 2 := encC_length _
    repeat' first | ((with_reducible apply WR.mv); exact rfl; exact rfl) | ((with_reducible apply WR.nil)) | (with_reducible refine andThen_n ?_) | (with_reducible refine andThen_x ?_) | (with_reducible refine inB_x ?_) | (with_reducible refine W.seq ?_) | (with_reducible refine W.region ?_) | (with_reducible refine W.ret ?_) | (with_reducible refine W.exit ?_) | ((with_reducible apply W.condF); exact rfl) | (intro hb; try (exfalso; omega)) | ((with_reducible apply WR.gtr); exact rfl; exact rfl; exact rfl)
    apply DoneP.mk
    · repeat' first | ((with_reducible apply Done.f); (intro hh hh2; exact (nomatch hh2)); (focus ((repeat' first | exact all_nil | apply all_cons | exact res_tmp rfl); done)); (focus ((repeat' first | exact all_nil | apply all_cons | exact retOf_o rfl rfl (by first | exact encC_length _)); done)); exact rfl; (focus ((repeat' first | exact outs_nil | apply outs_d); done)))
      rfl
    · exact ⟨out, hwk, by omega, hfst, rfl⟩

/-! The first clash. -/
def fcR (x : Option Nat) : List Ret := match x with | some t => [.s (.int .i64 t), .s (.int .i64 0), .s (.int .i64 1), .s (.int .i64 0)] | none => [.s (.int .i64 0), .s (.int .i64 0), .s (.int .i64 0), .s (.int .i64 6)]
theorem firstClash_gives (l : IsLawn w h g cs) (a b : List Cel) (h0 : walksC w h g a b = 0) (ha : 1 ≤ a.length ∧ a.length ≤ 201) (lb : 1 ≤ b.length ∧ b.length ≤ 201) : Gives G 371 [aa cs, aws a b] ⟨fcR (clashAt a b 201 0), []⟩ := by
  have hv := walkCode_gives l a b (by omega) (by omega)
  rw [h0] at hv
  refine Gives.by rfl rfl (W.seq ?_)
  repeat' first | ((with_reducible apply WR.c_s (f := 170) (fn := Code.f170)); exact rfl; exact rfl; exact rfl; (first | exact rfl); (focus ((repeat' first | exact args_nil | apply args_d | exact toD_d rfl | exact rfl); done)); exact hv) | (intro hb; exfalso; simp only [List.length_cons, List.length_nil] at hb; omega) | ((with_reducible apply WR.c_p (f := 30) (fn := Code.f30)); exact rfl; exact rfl; exact rfl; (first | exact rfl); (focus ((repeat' first | exact args_nil | apply args_d | exact toD_d rfl | exact rfl); done)); exact validLawn_gives (by assumption)) | ((with_reducible apply WR.mv); exact rfl; exact rfl) | ((with_reducible apply WR.le); exact rfl; exact rfl) | ((with_reducible apply WR.nil)) | (with_reducible refine andThen_n ?_) | (with_reducible refine W.seq ?_) | (with_reducible refine W.region ?_) | (with_reducible refine W.skip ?_) | (with_reducible refine W.block ?_) | ((with_reducible apply W.condF); exact rfl) | (intro hb; try (exfalso; omega)) | ((with_reducible apply WR.ld); exact rfl; exact rfl; exact rfl; (first | exact loadC_all (IsLawn.len (by assumption)))) | ((with_reducible apply WR.off); exact rfl) | ((with_reducible apply WR.gtr); exact rfl; exact rfl; exact rfl) | ((with_reducible apply WR.neq); exact rfl; exact rfl; exact rfl) | ((with_reducible apply WR.bx); exact rfl; exact rfl; exact (by first | exact IsLawn.len (by assumption) | exact rfl); (first | exact rfl)) | ((with_reducible apply WR.pk); exact rfl; exact rfl)
  all_goals
    (refine (?_ : W _ (Code.loop _) _ _))
    (refine W.loopM [1] [] [] (fun t : (Nat) => (201 - t : Nat)) (fun t : (Nat) => (t ≤ 201 ∧ clashAt a b 201 0 = clashAt a b 201 t : Prop)) (fun t : (Nat) => [(25, .a (.d (.s (.int .i64 (t : Nat)))))]) (fun t : (Nat) => []) 0 (⟨by omega, rfl⟩) ⟨rfl, trivial⟩ trivial trivial ?_)
    rintro t σ hP hN; dsimp only [setL, putL] at hP ⊢
    obtain ⟨ht, he⟩ := hP
    repeat' first | (with_reducible refine W.loop ?_) | (intro hb; exfalso; simp only [List.length_cons, List.length_nil] at hb; omega) | ((with_reducible apply WH.c_p (f := 172) (fn := Code.f172)); exact rfl; exact rfl; exact rfl; (first | exact rfl); (focus ((repeat' first | exact args_nil | apply args_d | exact toD_d rfl | exact all_nil | apply all_cons | exact rfl); done)); exact clash_gives _ _ _ (by omega) (by omega) (by omega)) | ((with_reducible apply WR.mv); exact rfl; exact rfl) | ((with_reducible apply WH.mv); exact rfl; exact rfl; exact rfl) | ((with_reducible apply WR.ad); exact rfl; exact rfl; exact rfl; (first | exact i64_in _ (by omega))) | ((with_reducible apply WR.lss); exact rfl; exact rfl; exact rfl) | ((with_reducible apply WR.le); exact rfl; exact rfl) | ((with_reducible apply WR.nil)) | (with_reducible refine andThen_n ?_) | (with_reducible refine andThen_x ?_) | (with_reducible refine andThen_r ?_) | (with_reducible refine inB_n ?_) | (with_reducible refine inB_r ?_) | (with_reducible refine inB_x ?_) | (with_reducible refine W.seq ?_) | (with_reducible refine W.region ?_) | (with_reducible refine W.skip ?_) | (with_reducible refine W.ret ?_) | (with_reducible refine W.exit ?_) | (with_reducible refine W.block ?_) | ((with_reducible apply W.condT); exact rfl) | ((with_reducible apply W.condF); exact rfl) | ((with_reducible apply Done.f); (intro hh hh2; exact (nomatch hh2)); (focus ((repeat' first | exact all_nil | apply all_cons | exact res_tmp rfl | exact rfl); done)); (focus ((repeat' first | exact all_nil | apply all_cons | exact retOf_s rfl | exact rfl); done)); exact rfl; (focus ((repeat' first | exact outs_nil | apply outs_d | exact rfl); done))) | ((with_reducible apply WH.nil)) | (with_reducible refine W.draw ?_) | (intro hb; try (exfalso; omega)) | ((with_reducible apply WH.lx); exact rfl; exact rfl; exact rfl) | ((with_reducible apply WH.ix); exact rfl; exact rfl; exact rfl)
    · rw [he, clashAt_step, if_pos (by omega), if_pos (by assumption)]; rfl
    · have hs := clashAt_step a b 201 t
      rw [if_pos (by omega), if_neg (by assumption)] at hs
      (refine W.nxt (t + 1) (by first | omega | (dsimp only; omega)) ?_ ⟨rfl, trivial⟩ trivial ⟨rfl, trivial⟩ trivial trivial); (try dsimp only)
      exact ⟨by omega, by rw [he, hs]⟩
    · rw [he, clashAt_step, if_neg (by omega)]; rfl
theorem firstClashS_gives (l : IsLawn w h g cs) (a b : List Cel) (ba : ∀ i, i < a.length → -128 ≤ (gC a i).1 ∧ (gC a i).1 ≤ 127 ∧ -128 ≤ (gC a i).2 ∧ (gC a i).2 ≤ 127) (bb : ∀ i, i < b.length → -128 ≤ (gC b i).1 ∧ (gC b i).1 ≤ 127 ∧ -128 ≤ (gC b i).2 ∧ (gC b i).2 ≤ 127)
    (h0 : walksC w h g a b = 0) (ha : 1 ≤ a.length ∧ a.length ≤ 201) (lb : 1 ≤ b.length ∧ b.length ≤ 201) : Gives G 372 [aa cs, aws a b] ⟨fcR (clashAt a b (max a.length b.length) 0), []⟩ := by
  have hv := l04Several_gives l a b (by omega) (by omega) ba bb
  rw [h0] at hv
  have hc := l04Clash_gives a b (by omega) (by omega)
  cases hx : clashAt a b (max a.length b.length) 0 with
  | none =>
    rw [hx] at hc
    refine Gives.by rfl rfl (W.seq ?_)
    repeat' first | ((with_reducible apply WR.c_s (f := 168) (fn := Code.f168)); exact rfl; exact rfl; exact rfl; (first | exact rfl); (focus ((repeat' first | exact args_nil | apply args_d | exact toD_d rfl | exact toD_ptr rfl rfl | exact all_nil | apply all_cons | exact rfl); done)); exact hv) | ((with_reducible apply WR.c_ssss (f := 169) (fn := Code.f169)); exact rfl; exact rfl; exact rfl; (first | exact rfl); (focus ((repeat' first | exact args_nil | apply args_d | exact toD_d rfl | exact toD_ptr rfl rfl | exact all_nil | apply all_cons | exact rfl); done)); exact hc) | ((with_reducible apply WR.mv); exact rfl; exact rfl) | ((with_reducible apply WR.mvt); exact rfl; exact rfl) | ((with_reducible apply WR.ex); exact rfl; exact rfl) | ((with_reducible apply WR.nil)) | (with_reducible refine andThen_n ?_) | (with_reducible refine andThen_r ?_) | (with_reducible refine W.seq ?_) | (with_reducible refine W.region ?_) | (with_reducible refine W.skip ?_) | (with_reducible refine W.ret ?_) | ((with_reducible apply W.condT); exact rfl) | ((with_reducible apply W.condF); exact rfl) | ((with_reducible apply Done.f); (intro hh hh2; exact (nomatch hh2)); (focus ((repeat' first | exact all_nil | apply all_cons | exact res_tmp rfl | exact rfl); done)); (focus ((repeat' first | exact all_nil | apply all_cons | exact retOf_s rfl | exact rfl); done)); exact rfl; (focus ((repeat' first | exact outs_nil | apply outs_d | exact rfl); done))) | (intro hb; try (exfalso; omega)) | ((with_reducible apply WR.neq); exact rfl; exact rfl; exact rfl) | ((with_reducible apply WR.bx); exact rfl; exact rfl; exact (by first | exact IsLawn.len (by assumption) | exact rfl); (first | exact rfl)) | ((with_reducible apply WR.un); exact rfl; exact rfl)
    all_goals rfl
  | some t =>
    rw [hx] at hc
    refine Gives.by rfl rfl (W.seq ?_)
    repeat' first | ((with_reducible apply WR.c_s (f := 168) (fn := Code.f168)); exact rfl; exact rfl; exact rfl; (first | exact rfl); (focus ((repeat' first | exact args_nil | apply args_d | exact toD_d rfl | exact toD_ptr rfl rfl | exact all_nil | apply all_cons | exact rfl); done)); exact hv) | ((with_reducible apply WR.c_ssss (f := 169) (fn := Code.f169)); exact rfl; exact rfl; exact rfl; (first | exact rfl); (focus ((repeat' first | exact args_nil | apply args_d | exact toD_d rfl | exact toD_ptr rfl rfl | exact all_nil | apply all_cons | exact rfl); done)); exact hc) | ((with_reducible apply WR.mv); exact rfl; exact rfl) | ((with_reducible apply WR.mvt); exact rfl; exact rfl) | ((with_reducible apply WR.ex); exact rfl; exact rfl) | ((with_reducible apply WR.nil)) | (with_reducible refine andThen_n ?_) | (with_reducible refine W.seq ?_) | (with_reducible refine W.region ?_) | (with_reducible refine W.skip ?_) | (with_reducible refine W.ret ?_) | ((with_reducible apply W.condF); exact rfl) | ((with_reducible apply Done.f); (intro hh hh2; exact (nomatch hh2)); (focus ((repeat' first | exact all_nil | apply all_cons | exact res_tmp rfl | exact rfl); done)); (focus ((repeat' first | exact all_nil | apply all_cons | exact retOf_s rfl | exact rfl); done)); exact rfl; (focus ((repeat' first | exact outs_nil | apply outs_d | exact rfl); done))) | (intro hb; try (exfalso; omega)) | ((with_reducible apply WR.neq); exact rfl; exact rfl; exact rfl) | ((with_reducible apply WR.bx); exact rfl; exact rfl; exact (by first | exact IsLawn.len (by assumption) | exact rfl); (first | exact rfl)) | ((with_reducible apply WR.un); exact rfl; exact rfl)
    all_goals rfl
/-- Later than both walks nobody clashes who has not before. -/
theorem clashFrom_some {a b : List Cel} {m : Nat} : ∀ {f t r : Nat}, clashFrom a b m f t = some r → (t ≤ r ∧ r < m) ∧ Clash a b r ∧ ∀ s, t ≤ s → s < r → ¬ Clash a b s
  | 0, t, r, hx => by cases hx
  | f + 1, t, r, hx => by
    unfold clashFrom at hx
    split at hx
    · rename_i ht
      split at hx
      · rename_i hc
        cases hx
        exact ⟨⟨Nat.le_refl _, ht⟩, hc, fun s h1 h2 => by omega⟩
      · rename_i hc
        obtain ⟨h1, h2, h3⟩ := clashFrom_some hx
        refine ⟨⟨by omega, h1.2⟩, h2, fun s h4 h5 => ?_⟩
        by_cases e : s = t
        · rw [e]; exact hc
        · exact h3 s (by omega) h5
    · cases hx
theorem clashAt_some {a b : List Cel} {m r : Nat} (hx : clashAt a b m 0 = some r) : r < m ∧ Clash a b r ∧ ∀ s, s < r → ¬ Clash a b s := by
  obtain ⟨h1, h2, h3⟩ := clashFrom_some hx
  exact ⟨h1.2, h2, fun s hs => h3 s (Nat.zero_le _) hs⟩
theorem clash_late {a b : List Cel} (ha : 1 ≤ a.length) (hb : 1 ≤ b.length) {t : Nat} (ht : max a.length b.length ≤ t) (hc : Clash a b t) : Clash a b (max a.length b.length - 1) := by
  have e : ∀ (x : List Cel) (s : Nat), x.length - 1 ≤ s → whr x s = gC x (x.length - 1) := fun x s hs => by unfold whr; rw [Nat.min_eq_right hs]
  left
  rcases hc with hc | ⟨_, hc, _⟩
  · rw [e a t (by omega), e b t (by omega)] at hc
    rw [e a _ (by omega), e b _ (by omega), hc]
  · rw [e a t (by omega), e b (t - 1) (by omega)] at hc
    rw [e a _ (by omega), e b _ (by omega), hc]
theorem clashAt_201 {a b : List Cel} (ha : 1 ≤ a.length ∧ a.length ≤ 201) (hb : 1 ≤ b.length ∧ b.length ≤ 201) : clashAt a b 201 0 = clashAt a b (max a.length b.length) 0 := by
  cases hx : clashAt a b (max a.length b.length) 0 with
  | none =>
    rw [clashAt_none] at hx ⊢
    intro s hs hc
    by_cases h1 : s < max a.length b.length
    · exact hx s h1 hc
    · exact hx _ (by omega) (clash_late ha.1 hb.1 (by omega) hc)
  | some r =>
    obtain ⟨h1, h2, h3⟩ := clashAt_some hx
    cases hy : clashAt a b 201 0 with
    | none => exact absurd h2 (clashAt_none.1 hy r (by omega))
    | some r' =>
      obtain ⟨k1, k2, k3⟩ := clashAt_some hy
      congr 1
      rcases Nat.lt_trichotomy r r' with hlt | heq | hgt
      · exact absurd h2 (k3 r hlt)
      · exact heq.symm
      · exact absurd k2 (h3 r' hgt)
end Go.DM
