/- Moles told of: levels that are drawn; one night; the soil's sum; lists of cells. -/
import Derived.Test.YtaocbbdkiemhaaaK356Src
import Derived.Test.YtaocbbdkiemhaaaK356Trap3
import Derived.Test.YtaocbbdkiemhaaaK356Most3
import Derived.Test.YtaocbbdkiemhaaaK356NightOfS
set_option linter.unusedSimpArgs false
set_option linter.unusedVariables false
set_option maxHeartbeats 4000000
namespace Go.DM
set_option linter.unusedSectionVars false
variable [Tok]
open Go.IntWalk
variable {w h : Int} {g : Nat → Int} {cs : List S} {q : Nat → Int} {qs : List S}

theorem f6big_gives (i : Nat) (hl : (Tok.dat i).length ≤ 9223372036854775807) : Gives G 358 [.d (.s (.tok i))] (rb (decide (4096 < (Tok.dat i).length))) := by
  refine Gives.by rfl rfl (W.seq ?_)
  repeat' first | ((with_reducible apply WR.mv); exact rfl; exact rfl) | ((with_reducible apply WR.nil)) | (with_reducible refine andThen_n ?_) | (with_reducible refine W.seq ?_) | (with_reducible refine W.region ?_) | (with_reducible refine W.ret ?_) | ((with_reducible apply Done.f); (intro hh hh2; exact (nomatch hh2)); (focus ((repeat' first | exact all_nil | apply all_cons | exact res_tmp rfl); done)); (focus ((repeat' first | exact all_nil | apply all_cons | exact retOf_s rfl); done)); exact rfl; (focus ((repeat' first | exact outs_nil | apply outs_d); done))) | (intro hb; try (exfalso; omega)) | ((with_reducible apply WR.gtr); exact rfl; exact rfl; exact rfl) | ((with_reducible apply WR.le); exact rfl; exact rfl)
  · exact rb_t (by omega)
  · exact rb_f (by omega)
theorem grassOf_gives (l : IsLawn w h g cs) (hs : 0 ≤ w ∧ w ≤ 10 ∧ 0 ≤ h ∧ h ≤ 10) : Gives G 361 [aa cs] ⟨[.own (ofKind w h g 0).length 2 (encC (ofKind w h g 0))], []⟩ := by
  refine Gives.by rfl rfl (W.seq ?_)
  repeat' first | ((with_reducible apply WR.c_o (f := 29) (fn := Code.f29)); exact rfl; exact rfl; exact rfl; (first | exact rfl); (focus ((repeat' first | exact args_nil | apply args_d | exact toD_d rfl | exact toD_ptr rfl rfl | exact all_nil | apply all_cons | exact rfl); done)); exact l01Cells_gives (by assumption) _ (by omega); (first | exact rfl)) | ((with_reducible apply WR.c_o (f := 29) (fn := Code.f29)); exact rfl; exact rfl; exact rfl; (first | exact rfl); (focus ((repeat' first | exact args_nil | apply args_d | exact toD_d rfl | exact toD_ptr rfl rfl | exact all_nil | apply all_cons | exact rfl); done)); exact l01Cells_gives (by assumption) _ (by omega); (first | exact rfl)) | ((with_reducible apply WR.nil)) | (with_reducible refine andThen_n ?_) | (with_reducible refine W.seq ?_) | (with_reducible refine W.region ?_) | (with_reducible refine W.ret ?_) | ((with_reducible apply Done.f); (intro hh hh2; exact (nomatch hh2)); (focus ((repeat' first | exact all_nil | apply all_cons | exact res_tmp rfl | exact rfl); done)); (focus ((repeat' first | exact all_nil | apply all_cons | exact retOf_o rfl rfl (by first | exact encC_length _ | exact IsLawn.len (by assumption) | exact rfl) | exact rfl); done)); exact rfl; (focus ((repeat' first | exact outs_nil | apply outs_d | exact rfl); done))) | ((with_reducible apply WR.mv); exact rfl; exact rfl) | ((with_reducible apply WR.bx); exact rfl; exact rfl; exact (by first | exact encC_length _ | exact IsLawn.len (by assumption) | exact rfl); (first | exact rfl))
  rfl
theorem sameCells_gives (L : List Cel) (hl : L.length ≤ 100000) : Gives G 363 [asl L, asl L] (rb true) := by
  refine Gives.by rfl rfl (W.seq ?_)
  repeat' first | ((with_reducible apply WR.mv); exact rfl; exact rfl) | ((with_reducible apply WR.le); exact rfl; exact rfl) | ((with_reducible apply WR.nil)) | (with_reducible refine andThen_n ?_) | (with_reducible refine W.seq ?_) | (with_reducible refine W.region ?_) | (with_reducible refine W.skip ?_) | (with_reducible refine W.block ?_) | ((with_reducible apply W.condF); exact rfl) | (intro hb; try (exfalso; omega)) | ((with_reducible apply WR.neq); exact rfl; exact rfl; exact rfl)
  (refine (?_ : W _ (Code.loop _) _ _))
  (refine W.loopM [0, 1] [] [] (fun i : (Nat) => (L.length - i : Nat)) (fun i : (Nat) => (i ≤ L.length : Prop)) (fun i : (Nat) => [(5, .a (.d (.s (.int .i64 (i : Nat)))))]) (fun i : (Nat) => []) 0 (by (try dsimp only); first | omega | exact trivial | exact ⟨by omega, rfl⟩ | exact ⟨by omega, by omega, rfl⟩ | (refine ⟨by omega, ?_⟩; simp; done) | (simp; done)) ⟨rfl, trivial⟩ trivial trivial ?_)
  rintro i σ hP hN; dsimp only [setL, putL] at hP ⊢
  repeat' first | ((with_reducible apply WR.mv); exact rfl; exact rfl) | ((with_reducible apply WH.mv); exact rfl; exact rfl; exact rfl) | ((with_reducible apply WR.le); exact rfl; exact rfl) | ((with_reducible apply WR.nil)) | (with_reducible refine andThen_n ?_) | (with_reducible refine andThen_x ?_) | (with_reducible refine inB_n ?_) | (with_reducible refine inB_x ?_) | (with_reducible refine W.seq ?_) | (with_reducible refine W.region ?_) | (with_reducible refine W.skip ?_) | (with_reducible refine W.ret ?_) | (with_reducible refine W.exit ?_) | (with_reducible refine W.block ?_) | ((with_reducible apply W.condT); exact rfl) | ((with_reducible apply W.condF); exact rfl) | ((with_reducible apply Done.f); (intro hh hh2; exact (nomatch hh2)); (focus ((repeat' first | exact all_nil | apply all_cons | exact res_tmp rfl); done)); (focus ((repeat' first | exact all_nil | apply all_cons | exact retOf_s rfl); done)); exact rfl; (focus ((repeat' first | exact outs_nil | apply outs_d); done))) | ((with_reducible apply WH.nil)) | (with_reducible refine W.draw ?_) | (intro hb; try (exfalso; omega)) | ((with_reducible apply WH.idn); exact rfl; exact rfl; exact rfl; omega; (first | exact Nat.le_of_eq (encC_length _).symm); exact rfl) | ((with_reducible apply WH.ldd); exact rfl; exact rfl; (first | exact ldCd (by first | omega)); exact rfl) | ((with_reducible apply WR.lss); exact rfl; exact rfl; exact rfl) | ((with_reducible apply WR.ad); exact rfl; exact rfl; exact rfl; (first | exact i64_in _ (by omega))) | ((with_reducible apply WH.en); exact rfl; exact rfl; exact rfl)
  · (refine W.nxt (i + 1) (by first | omega | (dsimp only; omega)) ?_ ⟨rfl, trivial⟩ trivial ⟨rfl, rfl, trivial⟩ trivial trivial); (try dsimp only)
    omega
  · rfl
theorem hasCell_gives (L : List Cel) (hl : L.length ≤ 100000) (x y : Int) : Gives G 367 [asl L, ac x y] (rb (decide ((x, y) ∈ L))) := by
  refine Gives.by rfl rfl (W.seq ?_)
  repeat' first | ((with_reducible apply WR.mv); exact rfl; exact rfl) | ((with_reducible apply WR.nil)) | (with_reducible refine andThen_n ?_) | (with_reducible refine W.seq ?_) | (with_reducible refine W.region ?_) | (with_reducible refine W.block ?_) | ((with_reducible apply WR.bx); exact rfl; exact rfl; exact (by first | exact rfl); (first | exact rfl))
  (refine (?_ : W _ (Code.loop _) _ _))
  (refine W.loopM [0, 3] [3] [] (fun i : (Nat) => (L.length - i : Nat)) (fun i : (Nat) => (i ≤ L.length ∧ (x, y) ∉ L.take i : Prop)) (fun i : (Nat) => [(5, .a (.d (.s (.int .i64 (i : Nat)))))]) (fun i : (Nat) => []) 0 (⟨by omega, by simp⟩) ⟨rfl, trivial⟩ trivial trivial ?_)
  rintro i σ hP hN; dsimp only [setL, putL] at hP ⊢
  obtain ⟨hi, hn⟩ := hP
  repeat' first | ((with_reducible apply WR.mv); exact rfl; exact rfl) | ((with_reducible apply WR.nil)) | (with_reducible refine andThen_n ?_) | (with_reducible refine andThen_x ?_) | (with_reducible refine andThen_r ?_) | (with_reducible refine inB_n ?_) | (with_reducible refine inB_r ?_) | (with_reducible refine inB_x ?_) | (with_reducible refine W.seq ?_) | (with_reducible refine W.region ?_) | (with_reducible refine W.skip ?_) | (with_reducible refine W.ret ?_) | (with_reducible refine W.exit ?_) | (with_reducible refine W.block ?_) | ((with_reducible apply W.condT); exact rfl) | ((with_reducible apply W.condF); exact rfl) | ((with_reducible apply Done.f); (intro hh hh2; exact (nomatch hh2)); (focus ((repeat' first | exact all_nil | apply all_cons | exact res_tmp rfl); done)); (focus ((repeat' first | exact all_nil | apply all_cons | exact retOf_s rfl); done)); exact rfl; (focus ((repeat' first | exact outs_nil | apply outs_d); done))) | ((with_reducible apply WH.nil)) | (with_reducible refine W.draw ?_) | (intro hb; try (exfalso; omega)) | ((with_reducible apply WH.mv); exact rfl; exact rfl; exact rfl) | ((with_reducible apply WH.ld); exact rfl; exact rfl; exact rfl; (first | exact ld2 | exact ldCd (by first | omega)); exact rfl) | ((with_reducible apply WH.ldd); exact rfl; exact rfl; (first | exact ld2 | exact ldCd (by first | omega)); exact rfl) | ((with_reducible apply WR.lss); exact rfl; exact rfl; exact rfl) | ((with_reducible apply WR.ad); exact rfl; exact rfl; exact rfl; (first | exact i64_in _ (by omega))) | ((with_reducible apply WR.le); exact rfl; exact rfl) | ((with_reducible apply WH.ec); exact rfl; exact rfl; exact rfl) | ((with_reducible apply WH.idn); exact rfl; exact rfl; exact rfl; omega; (first | exact Nat.le_of_eq (encC_length _).symm); exact rfl)
  · exact rb_t (by
      have hm := gC_mem (l := L) (k := i) (by omega)
      have e := (by assumption : (gC L i).1 = x ∧ (gC L i).2 = y)
      rw [← e.1, ← e.2]; exact hm)
  · (refine W.nxt (i + 1) (by first | omega | (dsimp only; omega)) ?_ ⟨rfl, trivial⟩ trivial ⟨rfl, rfl, trivial⟩ ⟨rfl, trivial⟩ trivial); (try dsimp only)
    refine ⟨by omega, fun hm => ?_⟩
    rw [List.take_add_one, gC_get (by omega)] at hm
    rcases List.mem_append.1 hm with h | h
    · exact hn h
    · simp only [Option.toList_some, List.mem_singleton] at h
      exact absurd ⟨by rw [← h], by rw [← h]⟩ (by assumption : ¬ ((gC L i).1 = x ∧ (gC L i).2 = y))
  · rw [List.take_of_length_le (by omega)] at hn
    exact rb_f hn

/-! Levels that are drawn. -/
def levsOk (w h : Int) (g q : Nat → Int) : Prop := ∀ k, k < 100 → levCell w h g q k
theorem levsOk.set (hq : levsOk w h g q) (hw : 1 ≤ w ∧ w ≤ 10) (hh : 1 ≤ h ∧ h ≤ 10) {x y n : Int} (hc : Is w h g 0 x y) (hn : -9 ≤ n ∧ n ≤ 9) : levsOk w h g (gset q (10 * y.toNat + x.toNat) n) := by
  intro k hk
  have h0 := hq k hk
  obtain ⟨hb, hg⟩ := hc
  simp only [levCell, gset] at h0 ⊢
  split
  · rename_i e
    subst e
    exact ⟨hn, .inr ⟨by omega, by omega, hg⟩⟩
  · exact h0
theorem grid_lev {q : Nat → Int} (hq : ∀ k, k < 100 → -128 ≤ q k ∧ q k ≤ 127) : IsLev q (grid .i8 q) := ⟨hq, grid_len, fun k hk => grid_get hk⟩
theorem l06drawn_gives (l : IsLawn w h g cs) (hL : LawnOk w h g) (i : Nat) (hl : (Tok.dat i).length ≤ 1000000000) :
    ∃ r : Res, (∃ (q : Nat → Int) (n' : Nat) (seed' : Int), levsOk w h g q ∧ r = ⟨[.agg (grid .i8 q)], [srcC i n' seed']⟩) ∧ Gives G 376 [.mp (srcC i 0 0), ar cs] r := by
  obtain ⟨r1, n1, s1, a1, _, b1, c1, g1⟩ := pick_gives i 0 0 4 (by omega) hl (by omega)
  have hs := hL.1
  have hs2 := hL.2.1
  have hA := allC_len (w := w) (h := h) (by omega)
  have hF : (ofKind w h g 0).length ≤ 100 := Nat.le_trans (List.length_filter_le ..) hA
  have hmem : ∀ c ∈ ofKind w h g 0, Is w h g 0 c.1 c.2 := fun c hc => by
    have h2 := List.mem_filter.1 hc
    exact ⟨allC_mem h2.1, by simpa using h2.2⟩
  have hF0 := l01Cells_gives l 0 (by omega)
  generalize ofKind w h g 0 = F at hF hmem hF0
  refine GivesP.by rfl rfl (W.seq ?_)
  repeat' first | ((with_reducible apply WR.c_ws (f := 377) (fn := Code.f377)); exact rfl; exact rfl; exact rfl; (focus ((repeat' first | exact args_nil | apply args_d | (apply args_p; exact rfl; exact rfl) | exact toD_d rfl | exact rfl); done)); exact g1; (focus ((repeat' first | exact backs_no | (apply backs_p; exact rfl; exact rfl; exact (by first | exact List.length_replicate .. | exact rfl)) | exact rfl); done)); dsimp only [insertAll]) | ((with_reducible apply WR.c_o (f := 29) (fn := Code.f29)); exact rfl; exact rfl; exact rfl; (first | exact rfl | exact backs_no); (focus ((repeat' first | exact args_nil | apply args_d | (apply args_p; exact rfl; exact rfl) | exact toD_d rfl | exact rfl); done)); exact hF0; (first | exact rfl)) | ((with_reducible apply WR.c_p (f := 28) (fn := Code.f28)); exact rfl; exact rfl; exact rfl; (first | exact rfl | exact backs_no); (focus ((repeat' first | exact args_nil | apply args_d | (apply args_p; exact rfl; exact rfl) | exact toD_d rfl | exact rfl); done)); exact l01Ok_gives (by assumption)) | ((with_reducible apply WR.mv); exact rfl; exact rfl) | ((with_reducible apply WR.st); exact rfl; exact rfl; exact rfl; exact storeAll (by first | exact List.length_replicate .. | exact rfl) (by first | exact List.length_replicate .. | exact rfl)) | ((with_reducible apply WR.nil)) | (with_reducible refine andThen_n ?_) | (with_reducible refine andThen_r ?_) | (with_reducible refine W.seq ?_) | (with_reducible refine W.region ?_) | (with_reducible refine W.skip ?_) | (with_reducible refine W.ret ?_) | (with_reducible refine W.block ?_) | ((with_reducible apply W.condT); exact rfl) | ((with_reducible apply W.condF); exact rfl) | (intro hb; try (exfalso; omega)) | ((with_reducible apply WR.ad); exact rfl; exact rfl; exact rfl; (first | exact i64_in _ (by omega))) | ((with_reducible apply WR.lx); exact rfl; exact rfl) | ((with_reducible apply WR.al); exact rfl; (first | exact rfl)) | ((with_reducible apply WR.un); exact rfl; exact rfl) | ((with_reducible apply WR.bu); exact rfl; exact rfl)
  · (refine (?_ : W _ (Code.loop _) _ _))
    (refine W.loopM [0, 4, 5, 6, 7] [4, 18] [] (fun zz : (Nat) × (Nat) × (Int) × (Nat → Int) => match zz with | (k, n, sd, q) => (F.length - k : Nat)) (fun zz : (Nat) × (Nat) × (Int) × (Nat → Int) => match zz with | (k, n, sd, q) => (k ≤ F.length ∧ n ≤ n1 + 1 * k ∧ levsOk w h g q : Prop)) (fun zz : (Nat) × (Nat) × (Int) × (Nat → Int) => match zz with | (k, n, sd, q) => [(8, .a (.d (.s (.int .i64 (k : Nat)))))]) (fun zz : (Nat) × (Nat) × (Int) × (Nat → Int) => match zz with | (k, n, sd, q) => [(0, .flat true (srcC i n sd)), (5, .flat false (grid .i8 q))]) (0, n1, s1, fun _ => 0) (⟨by omega, by omega, fun k _ => ⟨⟨by show (-9 : Int) ≤ 0; omega, by show (0 : Int) ≤ 9; omega⟩, .inl rfl⟩⟩) ⟨rfl, trivial⟩ ⟨rfl, rfl, trivial⟩ trivial ?_)
    rintro ⟨k, n, sd, q⟩ σ hP hN; dsimp only [setL, putL] at hP ⊢
    obtain ⟨hk, hn', hq⟩ := hP
    by_cases hkf : k < F.length
    · obtain ⟨r6, n6, s6, a6, _, b6, c6, g6⟩ := pick_gives i n sd (2 * (1 + r1) + 1) (by omega) hl (by omega)
      have hc := hmem _ (gC_mem (l := F) (k := k) hkf)
      have hc1 := hc.1
      repeat' first | ((with_reducible apply WH.c_ws (f := 377) (fn := Code.f377)); exact rfl; exact rfl; exact rfl; (focus ((repeat' first | exact args_nil | apply args_d | (apply args_p; exact rfl; exact rfl) | exact toD_d rfl | exact rfl); done)); exact g6; (focus ((repeat' first | exact backs_no | (apply backs_p; exact rfl; exact rfl; exact (by first | exact IsLawn.len (by assumption) | exact rfl)) | exact rfl); done)); exact rfl; exact rfl; dsimp only [insertAll]) | ((with_reducible apply WR.mv); exact rfl; exact rfl) | ((with_reducible apply WH.mv); exact rfl; exact rfl; exact rfl) | ((with_reducible apply WR.nil)) | (with_reducible refine andThen_n ?_) | (with_reducible refine inB_n ?_) | (with_reducible refine W.seq ?_) | (with_reducible refine W.region ?_) | (with_reducible refine W.skip ?_) | (with_reducible refine W.block ?_) | ((with_reducible apply W.condT); exact rfl) | ((with_reducible apply WH.nil)) | (with_reducible refine W.draw ?_) | (intro hb; try (exfalso; omega)) | ((with_reducible apply WR.ad); exact rfl; exact rfl; exact rfl; (first | exact i64_in _ (by omega) | exact i8_in _ (by omega))) | ((with_reducible apply WH.isn); exact rfl; exact rfl; exact rfl; omega; exact rfl) | ((with_reducible apply WH.ld); exact rfl; exact rfl; exact rfl; (first | exact ldCx (by first | omega) | exact ldCy (by first | omega)); exact rfl) | ((with_reducible apply WH.ia); exact rfl; exact rfl; exact rfl; omega; exact rfl) | ((with_reducible apply WH.fa); exact rfl; exact rfl; exact rfl) | ((with_reducible apply WR.lss); exact rfl; exact rfl; exact rfl) | ((with_reducible apply WR.le); exact rfl; exact rfl) | ((with_reducible apply WH.cv); exact rfl; exact rfl; (first | exact i64_in _ (by omega) | exact i8_in _ (by omega))) | ((with_reducible apply WH.ad); exact rfl; exact rfl; exact rfl; (first | exact i64_in _ (by omega) | exact i8_in _ (by omega))) | ((with_reducible apply WH.sb); exact rfl; exact rfl; exact rfl; (first | exact i64_in _ (by omega) | exact i8_in _ (by omega))) | ((with_reducible apply WH.ml); exact rfl; exact rfl; exact rfl; (first | exact i64_in _ (by omega) | exact i8_in _ (by omega))) | ((with_reducible apply WH.st); exact rfl; exact rfl; exact rfl; exact stG (by omega); exact rfl; exact rfl)
      (refine W.nxt (k + 1, n6, s6, gset q (10 * (gC F k).2.toNat + (gC F k).1.toNat) (r6 - (1 + r1))) (by first | omega | (dsimp only; omega)) ?_ ⟨rfl, trivial⟩ ⟨rfl, rfl, trivial⟩ ⟨rfl, rfl, rfl, rfl, rfl, trivial⟩ ⟨rfl, rfl, trivial⟩ trivial); (try dsimp only)
      exact ⟨by omega, by omega, hq.set hs hs2 hc (by omega)⟩
    · repeat' first | ((with_reducible apply WR.mv); exact rfl; exact rfl) | ((with_reducible apply WR.st); exact rfl; exact rfl; exact rfl; exact storeAll (by first | exact List.length_replicate .. | exact grid_len) (by first | exact List.length_replicate .. | exact grid_len)) | ((with_reducible apply WR.nil)) | (with_reducible refine andThen_n ?_) | (with_reducible refine andThen_x ?_) | (with_reducible refine inB_x ?_) | (with_reducible refine W.seq ?_) | (with_reducible refine W.region ?_) | (with_reducible refine W.ret ?_) | (with_reducible refine W.exit ?_) | ((with_reducible apply W.condF); exact rfl) | (intro hb; try (exfalso; omega)) | ((with_reducible apply WR.ld); exact rfl; exact rfl; exact rfl; (first | exact loadC_all grid_len)) | ((with_reducible apply WR.lss); exact rfl; exact rfl; exact rfl) | ((with_reducible apply WR.le); exact rfl; exact rfl)
      apply DoneP.mk
      · repeat' first | ((with_reducible apply Done.f); (intro hh hh2; exact (nomatch hh2)); (focus ((repeat' first | exact all_nil | apply all_cons | exact res_cell rfl rfl (by first | exact grid_len | exact rfl) | exact rfl); done)); (focus ((repeat' first | exact all_nil | apply all_cons | exact retOf_a rfl | exact rfl); done)); exact rfl; (focus ((repeat' first | exact outs_nil | apply outs_d | (apply outs_mp; exact rfl; exact (by first | exact grid_len | exact rfl)) | exact rfl); done)))
        rfl
      · exact ⟨q, n, sd, hq, rfl⟩
  · contradiction
theorem p6levels_gives (l : IsLawn w h g cs) (hL : LawnOk w h g) (i : Nat) (hl : (Tok.dat i).length ≤ 1000000000) :
    ∃ q : Nat → Int, LevOk w h g q ∧ IsLev q (grid .i8 q) ∧ Gives G 360 [.d (.s (.tok i)), aa cs] ⟨[.agg (grid .i8 q)], []⟩ := by
  obtain ⟨r, ⟨q, n', seed', hq, rfl⟩, hg⟩ := l06drawn_gives l hL i hl
  have lv : IsLev q (grid .i8 q) := grid_lev fun k hk => by have := (hq k hk).1; omega
  refine ⟨q, ⟨hL, hq⟩, lv, ?_⟩
  have ho := from_gives i
  refine Gives.by rfl rfl (W.seq ?_)
  repeat' first | ((with_reducible apply WR.c_n (f := 375) (fn := Code.f375)); exact rfl; exact rfl; exact rfl; (first | exact rfl | exact backs_no); (focus ((repeat' first | exact args_nil | apply args_d | (apply args_p; exact rfl; exact rfl) | exact toD_d rfl | exact toD_ptr rfl rfl | exact all_nil | apply all_cons | exact rfl); done)); exact ho; (first | exact rfl)) | ((with_reducible apply WR.c_wa (f := 376) (fn := Code.f376)); exact rfl; exact rfl; exact rfl; (focus ((repeat' first | exact args_nil | apply args_d | (apply args_p; exact rfl; exact rfl) | exact toD_d rfl | exact toD_ptr rfl rfl | exact all_nil | apply all_cons | exact rfl); done)); exact hg; (focus ((repeat' first | exact backs_no | (apply backs_p; exact rfl; exact rfl; exact (by first | exact List.length_replicate .. | exact grid_len | exact IsLawn.len (by assumption) | exact rfl)) | exact rfl); done)); dsimp only [insertAll]) | ((with_reducible apply WR.nil)) | (with_reducible refine andThen_n ?_) | (with_reducible refine W.seq ?_) | (with_reducible refine W.region ?_) | (with_reducible refine W.ret ?_) | ((with_reducible apply Done.f); (intro hh hh2; exact (nomatch hh2)); (focus ((repeat' first | exact all_nil | apply all_cons | exact res_cell rfl rfl (by first | exact List.length_replicate .. | exact grid_len | exact IsLawn.len (by assumption) | exact rfl) | exact rfl); done)); (focus ((repeat' first | exact all_nil | apply all_cons | exact retOf_a rfl | exact rfl); done)); exact rfl; (focus ((repeat' first | exact outs_nil | apply outs_d | exact rfl); done))) | ((with_reducible apply WR.mv); exact rfl; exact rfl) | ((with_reducible apply WR.bx); exact rfl; exact rfl; exact (by first | exact List.length_replicate .. | exact grid_len | exact IsLawn.len (by assumption) | exact rfl); (first | exact rfl)) | ((with_reducible apply WR.al); exact rfl; (first | exact rfl)) | ((with_reducible apply WR.st); exact rfl; exact rfl; exact rfl; exact storeAll (by first | exact List.length_replicate .. | exact grid_len | exact IsLawn.len (by assumption) | exact rfl) (by first | exact List.length_replicate .. | exact grid_len | exact IsLawn.len (by assumption) | exact rfl))
  rfl

/-! One night. -/
def onceRes (w h : Int) (g q : Nat → Int) (qs : List S) (a b : Cel) : Res := ⟨[.agg (nightLev q qs (goes w h g q a b)), .agg [.int .i8 (goes w h g q a b).1, .int .i8 (goes w h g q a b).2], .s (.int .i64 0)], []⟩
theorem moleOnce_gives (l : IsLawn w h g cs) (v : IsLev q qs) (hL : LevOk w h g q) (a b : Cel) (ha : Is w h g 0 a.1 a.2) (hb : Is w h g 0 b.1 b.2) : Gives G 364 [aa cs, aa qs, ac a.1 a.2, ac b.1 b.2] (onceRes w h g q qs a b) := by
  have hmc := moleCode_gives l v 0 [a, b] (by simp)
  have hz := hL.1.1
  have hz2 := hL.1.2.1
  have ha1 := ha.1
  rw [belowCode_zero.2 ⟨hL, ⟨by simp [Has]; exact ⟨ha.1, hb.1⟩, by omega, by omega⟩, by simp; exact ⟨ha, hb⟩⟩] at hmc
  have hng := night_gives l v (by omega) a b (by omega)
  have hnl := nightLev_length (q := q) (qs := qs) (t := goes w h g q a b)
  have hv : IsLev (nextQ q (goes w h g q a b)) (nightLev q qs (goes w h g q a b)) := (Mole.Ok.next (g := g) (h := h) (w := w) (by omega) (show (Mole.mk q qs a b).Ok from ⟨v, by show 0 ≤ a.1 ∧ a.1 < 10 ∧ 0 ≤ a.2 ∧ a.2 < 10; omega⟩)).v
  unfold onceRes
  generalize nightLev q qs (goes w h g q a b) = qs' at hng hnl hv ⊢
  generalize nextQ q (goes w h g q a b) = q' at hv
  generalize goes w h g q a b = t at hng ⊢
  refine Gives.by rfl rfl (W.seq ?_)
  repeat' first | ((with_reducible apply WR.c_s (f := 25) (fn := Code.f25)); exact rfl; exact rfl; exact rfl; (first | exact rfl); (focus ((repeat' first | exact args_nil | apply args_d | exact toD_d rfl | exact toD_slC rfl rfl (by first | exact rfl) | exact all_nil | apply all_cons | exact rfl); done)); exact hmc) | ((with_reducible apply WR.c_aa (f := 57) (fn := Code.f57)); exact rfl; exact rfl; exact rfl; (first | exact rfl); (focus ((repeat' first | exact args_nil | apply args_d | exact toD_d rfl | exact toD_slC rfl rfl (by first | exact rfl) | exact all_nil | apply all_cons | exact rfl); done)); exact hng) | ((with_reducible apply WR.ld); exact rfl; exact rfl; exact rfl; (first | exact ld2 | exact loadC_all (IsLawn.len (by assumption)) | exact loadC_all (IsLev.len (by assumption)))) | ((with_reducible apply WR.mv); exact rfl; exact rfl) | ((with_reducible apply WR.mvt); exact rfl; exact rfl) | ((with_reducible apply WR.bx); exact rfl; exact rfl; exact (by first | exact List.length_replicate .. | exact IsLev.len (by assumption) | exact IsLawn.len (by assumption) | exact rfl); (first | exact rfl)) | ((with_reducible apply WR.al); exact rfl; (first | exact rfl)) | ((with_reducible apply WR.st); exact rfl; exact rfl; exact rfl; exact stM2) | ((with_reducible apply WR.st); exact rfl; exact rfl; exact rfl; exact storeAll (by first | exact List.length_replicate .. | exact IsLev.len (by assumption) | exact IsLawn.len (by assumption) | exact rfl) (by first | exact List.length_replicate .. | exact IsLev.len (by assumption) | exact IsLawn.len (by assumption) | exact rfl)) | ((with_reducible apply WR.bM); exact rfl; exact rfl; exact rfl) | ((with_reducible apply WR.nil)) | (with_reducible refine andThen_n ?_) | (with_reducible refine W.seq ?_) | (with_reducible refine W.region ?_) | (with_reducible refine W.skip ?_) | (with_reducible refine W.ret ?_) | ((with_reducible apply W.condF); exact rfl) | ((with_reducible apply Done.f); (intro hh hh2; exact (nomatch hh2)); (focus ((repeat' first | exact all_nil | apply all_cons | exact res_tmp rfl | exact res_cell rfl rfl (by first | exact List.length_replicate .. | exact IsLev.len (by assumption) | exact IsLawn.len (by assumption) | exact rfl) | exact rfl); done)); (focus ((repeat' first | exact all_nil | apply all_cons | exact retOf_s rfl | exact retOf_a rfl | exact rfl); done)); exact rfl; (focus ((repeat' first | exact outs_nil | apply outs_d | exact rfl); done))) | ((with_reducible apply WH.nil)) | (with_reducible refine W.draw ?_) | (intro hb; try (exfalso; omega)) | ((with_reducible apply WR.ex); exact rfl; exact rfl) | ((with_reducible apply WH.ld); exact rfl; exact rfl; exact rfl; (first | exact ld2 | exact loadC_all (IsLawn.len (by assumption)) | exact loadC_all (IsLev.len (by assumption))); exact rfl) | ((with_reducible apply WH.st); exact rfl; exact rfl; exact rfl; exact st2; exact rfl; exact rfl) | ((with_reducible apply WH.st); exact rfl; exact rfl; exact rfl; exact storeAll (by first | exact List.length_replicate .. | exact IsLev.len (by assumption) | exact IsLawn.len (by assumption) | exact rfl) (by first | exact List.length_replicate .. | exact IsLev.len (by assumption) | exact IsLawn.len (by assumption) | exact rfl); exact rfl; exact rfl) | ((with_reducible apply WR.neq); exact rfl; exact rfl; exact rfl) | ((with_reducible apply WR.bs2); exact rfl; exact rfl; exact rfl; (first | exact rfl)) | ((with_reducible apply WH.mv); exact rfl; exact rfl; exact rfl) | ((with_reducible apply WH.fa); exact rfl; exact rfl; exact rfl)
  rfl
theorem moleOnceS_gives (l : IsLawn w h g cs) (v : IsLev q qs) (hL : LevOk w h g q) (a b : Cel) (ha : Is w h g 0 a.1 a.2) (hb : Is w h g 0 b.1 b.2) : Gives G 365 [aa cs, aa qs, ac a.1 a.2, ac b.1 b.2] (onceRes w h g q qs a b) := by
  have hz := hL.1.1
  have hz2 := hL.1.2.1
  have ha1 := ha.1
  have hb1 := hb.1
  have hbl := l06Below2_gives l v a.1 a.2 b.1 b.2 (by omega) (by omega)
  rw [belowCode_zero.2 ⟨hL, ⟨ha.1, hb.1⟩, ⟨ha, hb⟩⟩] at hbl
  have hng := nightS_gives l v (by omega) a b (by omega)
  have hnl := nightLev_length (q := q) (qs := qs) (t := goes w h g q a b)
  have hv : IsLev (nextQ q (goes w h g q a b)) (nightLev q qs (goes w h g q a b)) := (Mole.Ok.next (g := g) (h := h) (w := w) (by omega) (show (Mole.mk q qs a b).Ok from ⟨v, by show 0 ≤ a.1 ∧ a.1 < 10 ∧ 0 ≤ a.2 ∧ a.2 < 10; omega⟩)).v
  unfold onceRes
  generalize nightLev q qs (goes w h g q a b) = qs' at hng hnl hv ⊢
  generalize nextQ q (goes w h g q a b) = q' at hv
  generalize goes w h g q a b = t at hng ⊢
  refine Gives.by rfl rfl (W.seq ?_)
  repeat' first | ((with_reducible apply WR.c_s (f := 21) (fn := Code.f21)); exact rfl; exact rfl; exact rfl; (first | exact rfl); (focus ((repeat' first | exact args_nil | apply args_d | apply args_f | (apply args_p; exact rfl; exact rfl) | exact toD_d rfl | exact toD_ptr rfl rfl | exact toD_slC rfl rfl (by first | exact rfl) | exact all_nil | apply all_cons | exact rfl); done)); exact hbl) | ((with_reducible apply WR.c_m (f := 53) (fn := Code.f53)); exact rfl; exact rfl; exact rfl; (focus ((repeat' first | exact args_nil | apply args_d | apply args_f | (apply args_p; exact rfl; exact rfl) | exact toD_d rfl | exact toD_ptr rfl rfl | exact toD_slC rfl rfl (by first | exact rfl) | exact all_nil | apply all_cons | exact rfl); done)); exact hng; (focus ((repeat' first | exact backs_nil | (refine backs_f.trans ?_) | (apply backs_p; exact rfl; exact rfl; exact (by first | exact List.length_replicate .. | exact IsLev.len (by assumption) | exact IsLawn.len (by assumption) | assumption | exact rfl)) | exact rfl); done)); dsimp only [insertAll]) | ((with_reducible apply WR.mv); exact rfl; exact rfl) | ((with_reducible apply WR.bx); exact rfl; exact rfl; exact (by first | exact List.length_replicate .. | exact IsLev.len (by assumption) | exact IsLawn.len (by assumption) | assumption | exact rfl); (first | exact rfl | assumption)) | ((with_reducible apply WR.ld); exact rfl; exact rfl; exact rfl; (first | exact ld2 | exact loadC_all (IsLev.len (by assumption)))) | ((with_reducible apply WR.bM); exact rfl; exact rfl; exact rfl) | ((with_reducible apply WR.nil)) | (with_reducible refine andThen_n ?_) | (with_reducible refine W.seq ?_) | (with_reducible refine W.region ?_) | (with_reducible refine W.skip ?_) | (with_reducible refine W.ret ?_) | ((with_reducible apply W.condF); exact rfl) | ((with_reducible apply Done.f); (intro hh hh2; exact (nomatch hh2)); (focus ((repeat' first | exact all_nil | apply all_cons | exact res_tmp rfl | exact res_cell rfl rfl (by first | exact List.length_replicate .. | exact IsLev.len (by assumption) | exact IsLawn.len (by assumption) | assumption | exact rfl) | exact rfl); done)); (focus ((repeat' first | exact all_nil | apply all_cons | exact retOf_s rfl | exact retOf_a rfl | exact rfl); done)); exact rfl; (focus ((repeat' first | exact outs_nil | apply outs_d | exact rfl); done))) | ((with_reducible apply WH.nil)) | (with_reducible refine W.draw ?_) | (intro hb; try (exfalso; omega)) | ((with_reducible apply WR.al); exact rfl; (first | exact rfl | assumption)) | ((with_reducible apply WH.mv); exact rfl; exact rfl; exact rfl) | ((with_reducible apply WH.ld); exact rfl; exact rfl; exact rfl; (first | exact ld2 | exact loadC_all (IsLev.len (by assumption))); exact rfl) | ((with_reducible apply WH.st); exact rfl; exact rfl; exact rfl; exact st2; exact rfl; exact rfl) | ((with_reducible apply WH.st); exact rfl; exact rfl; exact rfl; exact storeAll (by first | exact List.length_replicate .. | exact IsLev.len (by assumption) | exact IsLawn.len (by assumption) | assumption | exact rfl) (by first | exact List.length_replicate .. | exact IsLev.len (by assumption) | exact IsLawn.len (by assumption) | assumption | exact rfl); exact rfl; exact rfl) | ((with_reducible apply WR.neq); exact rfl; exact rfl; exact rfl) | ((with_reducible apply WR.bs2); exact rfl; exact rfl; exact rfl; (first | exact rfl | assumption)) | ((with_reducible apply WH.fa); exact rfl; exact rfl; exact rfl) | ((with_reducible apply WH.nc); exact rfl; exact rfl; exact rfl)
  rfl

/-! The soil's sum. -/
def tot (f : Cel → Int) : List Cel → Int
  | [] => 0
  | c :: r => f c + tot f r
theorem tot_snoc (f : Cel → Int) (c : Cel) : ∀ L : List Cel, tot f (L ++ [c]) = tot f L + f c
  | [] => by simp [tot]
  | d :: r => by simp only [List.cons_append, tot, tot_snoc f c r]; omega
theorem soil_gives (l : IsLawn w h g cs) (v : IsLev q qs) (hs : 0 ≤ w ∧ w ≤ 10 ∧ 0 ≤ h ∧ h ≤ 10) (h9 : ∀ c ∈ allC w h, -9 ≤ lv q c ∧ lv q c ≤ 9) : Gives G 208 [aa cs, aa qs] (ri .i64 (tot (lv q) (allC w h))) := by
  have hall := all_gives l hs
  have hal := allC_len (w := w) (h := h) (by omega)
  have hin : ∀ c ∈ allC w h, 0 ≤ c.1 ∧ c.1 < 10 ∧ 0 ≤ c.2 ∧ c.2 < 10 := fun c hc => by
    have := allC_mem hc
    simp only [Has] at this; omega
  generalize allC w h = A at hall hal h9 hin ⊢
  refine Gives.by rfl rfl (W.seq ?_)
  repeat' first | ((with_reducible apply WR.c_o (f := 33) (fn := Code.f33)); exact rfl; exact rfl; exact rfl; (first | exact rfl); (focus ((repeat' first | exact args_nil | apply args_d | exact toD_d rfl | exact rfl); done)); exact hall; (first | exact rfl)) | ((with_reducible apply WR.mv); exact rfl; exact rfl) | ((with_reducible apply WR.ld); exact rfl; exact rfl; exact rfl; (first | exact loadC_all (IsLawn.len (by assumption)))) | ((with_reducible apply WR.nil)) | (with_reducible refine andThen_n ?_) | (with_reducible refine W.seq ?_) | (with_reducible refine W.region ?_) | (with_reducible refine W.block ?_) | ((with_reducible apply WR.bx); exact rfl; exact rfl; exact (by first | exact IsLev.len (by assumption) | exact IsLawn.len (by assumption) | exact rfl); (first | exact rfl)) | ((with_reducible apply WR.le); exact rfl; exact rfl)
  (refine (?_ : W _ (Code.loop _) _ _))
  (refine W.loopM [3, 9, 10] [3, 9] [7] (fun zz : (Nat) × (Int) => match zz with | (i, n) => (A.length - i : Nat)) (fun zz : (Nat) × (Int) => match zz with | (i, n) => ((i ≤ A.length ∧ n = tot (lv q) (A.take i)) ∧ -9 * (i : Int) ≤ n ∧ n ≤ 9 * (i : Int) : Prop)) (fun zz : (Nat) × (Int) => match zz with | (i, n) => [(11, .a (.d (.s (.int .i64 (i : Nat))))), (5, .a (.d (.s (.int .i64 n))))]) (fun zz : (Nat) × (Int) => match zz with | (i, n) => []) (0, 0) (⟨⟨by omega, rfl⟩, by omega, by omega⟩) ⟨rfl, rfl, trivial⟩ trivial ⟨(by (repeat' first | exact rfl | assumption | (with_reducible apply noPar_set) | ((with_reducible apply noPar_puto); exact rfl) | (with_reducible apply noPar_put) | (with_reducible apply noPar_putv) | (with_reducible apply noPar_putm) | (with_reducible apply noPar_kill) | ((with_reducible apply noPar_mix); exact rfl) | ((with_reducible apply noPar_mixT); exact rfl)); done), trivial⟩ ?_)
  rintro ⟨i, n⟩ σ hP hN; dsimp only [setL, putL] at hP ⊢; obtain ⟨n7, hN⟩ := hN
  obtain ⟨⟨hi, hn⟩, hb1, hb2⟩ := hP
  by_cases hil : i < A.length
  · have hst : A.take (i + 1) = A.take i ++ [gC A i] := by rw [List.take_add_one, gC_get hil]; rfl
    have h1 := h9 _ (gC_mem hil)
    have h2 := hin _ (gC_mem hil)
    have h3 : -9 ≤ q (10 * (gC A i).2.toNat + (gC A i).1.toNat) ∧ q (10 * (gC A i).2.toNat + (gC A i).1.toNat) ≤ 9 := h1
    repeat' first | ((with_reducible apply WR.c_s (f := 97) (fn := Code.f97)); exact rfl; exact rfl; exact rfl; (first | exact rfl); (focus ((repeat' first | exact args_nil | apply args_d | exact toD_d rfl | exact rfl); done)); exact of_gives (by assumption) _ _ (by omega)) | ((with_reducible apply WR.mv); exact rfl; exact rfl) | ((with_reducible apply WR.ld); exact rfl; exact rfl; exact rfl; (first | exact ld2 | exact loadC_all (IsLev.len (by assumption)) | exact ldC (by first | omega))) | ((with_reducible apply WR.nil)) | (with_reducible refine andThen_n ?_) | (with_reducible refine inB_n ?_) | (with_reducible refine W.seq ?_) | (with_reducible refine W.region ?_) | (with_reducible refine W.skip ?_) | (with_reducible refine W.block ?_) | ((with_reducible apply W.condT); exact rfl) | (intro hb; try (exfalso; omega)) | ((with_reducible apply WR.ad); exact rfl; exact rfl; exact rfl; (first | exact i64_in _ (by omega) | assumption)) | ((with_reducible apply WR.lss); exact rfl; exact rfl; exact rfl) | ((with_reducible apply WR.isn); exact rfl; exact rfl; exact rfl; omega) | ((with_reducible apply WR.al); exact rfl; (first | exact rfl | assumption)) | ((with_reducible apply WR.st); exact rfl; exact rfl; exact rfl; exact st2)
    (refine W.nxt ((i + 1, n + q (10 * (gC A i).2.toNat + (gC A i).1.toNat))) (by first | omega | (dsimp only; omega)) ?_ ⟨rfl, rfl, trivial⟩ trivial ⟨rfl, rfl, rfl, trivial⟩ ⟨rfl, rfl, trivial⟩ ⟨(by (repeat' first | exact rfl | assumption | (with_reducible apply noPar_set) | ((with_reducible apply noPar_puto); exact rfl) | (with_reducible apply noPar_put) | (with_reducible apply noPar_putv) | (with_reducible apply noPar_putm) | (with_reducible apply noPar_kill) | ((with_reducible apply noPar_mix); exact rfl) | ((with_reducible apply noPar_mixT); exact rfl)); done), trivial⟩); (try dsimp only)
    refine ⟨⟨by omega, ?_⟩, by omega, by omega⟩
    rw [hst, tot_snoc, ← hn]; rfl
  · obtain rfl : i = A.length := by omega
    rw [List.take_of_length_le (by omega)] at hn
    rw [← hn]
    repeat' first | ((with_reducible apply WR.mv); exact rfl; exact rfl) | ((with_reducible apply WR.nil)) | (with_reducible refine andThen_n ?_) | (with_reducible refine andThen_x ?_) | (with_reducible refine inB_x ?_) | (with_reducible refine W.seq ?_) | (with_reducible refine W.region ?_) | (with_reducible refine W.ret ?_) | (with_reducible refine W.exit ?_) | ((with_reducible apply W.condF); exact rfl) | ((with_reducible apply Done.f); (intro hh hh2; exact (nomatch hh2)); (focus ((repeat' first | exact all_nil | apply all_cons | exact res_tmp rfl); done)); (focus ((repeat' first | exact all_nil | apply all_cons | exact retOf_s rfl); done)); exact rfl; (focus ((repeat' first | exact outs_nil | apply outs_d); done))) | (intro hb; try (exfalso; omega)) | ((with_reducible apply WR.lss); exact rfl; exact rfl; exact rfl)
    rfl
theorem soilSum_gives (l : IsLawn w h g cs) (v : IsLev q qs) (hL : LevOk w h g q) : Gives G 366 [aa cs, aa qs] ⟨[.s (.int .i64 (tot (lv q) (allC w h))), .s (.int .i64 0)], []⟩ := by
  have hc := soilCode0_gives l v
  rw [levCode, if_pos hL] at hc
  have hz := hL.1.1
  have hz2 := hL.1.2.1
  have hsum := soil_gives l v (by omega) (fun c hc => by
    have := allC_mem hc
    simp only [Has] at this
    exact (hL.2 (10 * c.2.toNat + c.1.toNat) (by omega)).1)
  refine Gives.by rfl rfl (W.seq ?_)
  repeat' first | ((with_reducible apply WR.c_s (f := 55) (fn := Code.f55)); exact rfl; exact rfl; exact rfl; (first | exact rfl); (focus ((repeat' first | exact args_nil | apply args_d | exact toD_d rfl | exact all_nil | apply all_cons | exact rfl); done)); exact hc) | ((with_reducible apply WR.c_s (f := 208) (fn := Code.f208)); exact rfl; exact rfl; exact rfl; (first | exact rfl); (focus ((repeat' first | exact args_nil | apply args_d | exact toD_d rfl | exact all_nil | apply all_cons | exact rfl); done)); exact hsum) | ((with_reducible apply WR.mv); exact rfl; exact rfl) | ((with_reducible apply WR.ld); exact rfl; exact rfl; exact rfl; (first | exact loadC_all (IsLawn.len (by assumption)) | exact loadC_all (IsLev.len (by assumption)))) | ((with_reducible apply WR.nil)) | (with_reducible refine andThen_n ?_) | (with_reducible refine W.seq ?_) | (with_reducible refine W.region ?_) | (with_reducible refine W.skip ?_) | (with_reducible refine W.ret ?_) | ((with_reducible apply W.condF); exact rfl) | ((with_reducible apply Done.f); (intro hh hh2; exact (nomatch hh2)); (focus ((repeat' first | exact all_nil | apply all_cons | exact res_tmp rfl | exact rfl); done)); (focus ((repeat' first | exact all_nil | apply all_cons | exact retOf_s rfl | exact rfl); done)); exact rfl; (focus ((repeat' first | exact outs_nil | apply outs_d | exact rfl); done))) | (intro hb; try (exfalso; omega)) | ((with_reducible apply WR.bx); exact rfl; exact rfl; exact (by first | exact IsLev.len (by assumption) | exact IsLawn.len (by assumption) | exact rfl); (first | exact rfl)) | ((with_reducible apply WR.neq); exact rfl; exact rfl; exact rfl)
  rfl
end Go.DM
