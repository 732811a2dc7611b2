/- Ways: whether they are right, where they end, ways back: both sides; lists held against each other. -/
import Derived.Test.YtadlffkjghjciaaGreatDoorK380Ways
set_option linter.unusedSectionVars false
set_option linter.unusedSimpArgs false
set_option linter.unusedVariables false
set_option maxHeartbeats 4000000
namespace Go.DM
variable [Tok]
open Go.IntWalk
variable {w h : Int} {g : Nat → Int} {cs : List S}
theorem checkWay_gives (l : IsLawn w h g cs) (c : Cel) (s : List UInt8) (h0 : goneC w h g c s = 0) : Gives G 384 [aa cs, ac c.1 c.2, .d (.s (.str s))] ⟨[.s (.bool true), .s (.int .i64 0)], []⟩ := by
  have hw := walked_gives l c s
  rw [if_pos h0] at hw
  generalize trk s c s.length = T at hw
  refine Gives.by rfl rfl (W.seq ?_)
  repeat' first | ((with_reducible apply WR.c_os (f := 81) (fn := Code.f81)); exact rfl; exact rfl; exact rfl; (exact rfl); (focus ((repeat' first | exact args_nil | apply args_d | exact toD_d rfl | exact all_nil | apply all_cons | exact rfl); done)); exact hw; (exact rfl)) | ((with_reducible apply WR.mv); exact rfl; exact rfl) | ((with_reducible apply WR.mvt); exact rfl; exact rfl) | ((with_reducible apply WR.nil)) | (with_reducible refine andThen_n ?_) | (with_reducible refine W.seq ?_) | (with_reducible refine W.region ?_) | (with_reducible refine W.skip ?_) | (with_reducible refine W.ret ?_) | ((with_reducible apply W.condF); exact rfl) | ((with_reducible apply Done.f); (intro hh hh2; exact (nomatch hh2)); (focus ((repeat' first | exact all_nil | apply all_cons | exact res_tmp rfl | exact rfl); done)); (focus ((repeat' first | exact all_nil | apply all_cons | exact retOf_s rfl | exact rfl); done)); exact rfl; (focus ((repeat' first | exact outs_nil | apply outs_d | exact rfl); done))) | (intro hb; try (exfalso; omega)) | ((with_reducible apply WR.eql); exact rfl; exact rfl; exact rfl) | ((with_reducible apply WR.bx); exact rfl; exact rfl; exact (by first | exact IsLawn.len (by assumption) | exact rfl); (exact rfl)) | ((with_reducible apply WR.ld); exact rfl; exact rfl; exact rfl; (first | exact ld2 | exact loadC_all (IsLawn.len (by assumption)))) | ((with_reducible apply WR.ex); exact rfl; exact rfl)
  rfl
def endRes (e : Cel) : Res := ⟨[.agg [.int .i8 e.1, .int .i8 e.2], .s (.int .i64 0)], []⟩
theorem endOf_gives (l : IsLawn w h g cs) (c : Cel) (s : List UInt8) (h0 : goneC w h g c s = 0) : Gives G 385 [aa cs, ac c.1 c.2, .d (.s (.str s))] (endRes (endL c s)) := by
  have hw := walked_gives l c s
  have hl := told_ok (gone_zero h0).1
  rw [if_pos h0] at hw
  have hlen := trk_len s c s.length
  have he : gC (trk s c s.length) s.length = endL c s := (trk_last s c s.length).trans (at_end s c)
  generalize trk s c s.length = T at hw hlen he
  rw [← he, endRes]
  refine Gives.by rfl rfl (W.seq ?_)
  repeat' first | ((with_reducible apply WR.c_os (f := 81) (fn := Code.f81)); exact rfl; exact rfl; exact rfl; (exact rfl); (focus ((repeat' first | exact args_nil | apply args_d | exact toD_d rfl | exact all_nil | apply all_cons | exact rfl); done)); exact hw; (exact rfl)) | ((with_reducible apply WR.mv); exact rfl; exact rfl) | ((with_reducible apply WR.mvt); exact rfl; exact rfl) | ((with_reducible apply WR.ld); exact rfl; exact rfl; exact rfl; (first | exact ld2 | exact loadC_all (IsLawn.len (by assumption)) | exact ldC (by first | omega))) | ((with_reducible apply WR.nil)) | (with_reducible refine andThen_n ?_) | (with_reducible refine W.seq ?_) | (with_reducible refine W.region ?_) | (with_reducible refine W.skip ?_) | (with_reducible refine W.ret ?_) | ((with_reducible apply W.condF); exact rfl) | ((with_reducible apply Done.f); (intro hh hh2; exact (nomatch hh2)); (focus ((repeat' first | exact all_nil | apply all_cons | exact res_tmp rfl | exact res_cell rfl rfl (by first | exact IsLawn.len (by assumption) | exact rfl) | exact rfl); done)); (focus ((repeat' first | exact all_nil | apply all_cons | exact retOf_s rfl | exact retOf_a rfl | exact rfl); done)); exact rfl; (focus ((repeat' first | exact outs_nil | apply outs_d | exact rfl); done))) | (intro hb; try (exfalso; omega)) | ((with_reducible apply WR.bx); exact rfl; exact rfl; exact (by first | exact IsLawn.len (by assumption) | exact rfl); (exact rfl)) | ((with_reducible apply WR.ex); exact rfl; exact rfl) | ((with_reducible apply WR.st); exact rfl; exact rfl; exact rfl; exact st2) | ((with_reducible apply WR.neq); exact rfl; exact rfl; exact rfl) | ((with_reducible apply WR.sb); exact rfl; exact rfl; exact rfl; (first | exact i64_in _ (by omega))) | ((with_reducible apply WR.is); exact rfl; exact rfl; exact rfl; omega) | ((with_reducible apply WR.le); exact rfl; exact rfl) | ((with_reducible apply WR.al); exact rfl; (exact rfl))
  have e : ((T.length : Int) - 1).toNat = s.length := by omega
  rw [e]
  rfl
theorem endOfS_gives (l : IsLawn w h g cs) (c : Cel) (hx : InB c) (s : List UInt8) (h0 : goneC w h g c s = 0) : Gives G 386 [aa cs, ac c.1 c.2, .d (.s (.str s))] (endRes (endL c s)) := by
  have hw := l02Gone_gives l c hx s
  have hl := told_ok (gone_zero h0).1
  rw [if_pos h0] at hw
  have hlen := trk_len s c s.length
  have he : gC (trk s c s.length) s.length = endL c s := (trk_last s c s.length).trans (at_end s c)
  generalize trk s c s.length = T at hw hlen he
  rw [← he, endRes]
  refine Gives.by rfl rfl (W.seq ?_)
  repeat' first | ((with_reducible apply WR.c_os (f := 39) (fn := Code.f39)); exact rfl; exact rfl; exact rfl; (exact rfl); (focus ((repeat' first | exact args_nil | apply args_d | exact toD_d rfl | exact toD_ptr rfl rfl | exact all_nil | apply all_cons | exact rfl); done)); exact hw; (exact rfl)) | ((with_reducible apply WR.mv); exact rfl; exact rfl) | ((with_reducible apply WR.mvt); exact rfl; exact rfl) | ((with_reducible apply WR.nil)) | (with_reducible refine andThen_n ?_) | (with_reducible refine W.seq ?_) | (with_reducible refine W.region ?_) | (with_reducible refine W.skip ?_) | (with_reducible refine W.ret ?_) | ((with_reducible apply W.condF); exact rfl) | ((with_reducible apply Done.f); (intro hh hh2; exact (nomatch hh2)); (focus ((repeat' first | exact all_nil | apply all_cons | exact res_tmp rfl | exact res_cell rfl rfl (by first | exact IsLawn.len (by assumption) | exact rfl) | exact rfl); done)); (focus ((repeat' first | exact all_nil | apply all_cons | exact retOf_s rfl | exact retOf_a rfl | exact rfl); done)); exact rfl; (focus ((repeat' first | exact outs_nil | apply outs_d | exact rfl); done))) | (intro hb; try (exfalso; omega)) | ((with_reducible apply WR.bx); exact rfl; exact rfl; exact (by first | exact IsLawn.len (by assumption) | exact rfl); (exact rfl)) | ((with_reducible apply WR.ld); exact rfl; exact rfl; exact rfl; (first | exact ld2 | exact ldC (by first | omega))) | ((with_reducible apply WR.ex); exact rfl; exact rfl) | ((with_reducible apply WR.st); exact rfl; exact rfl; exact rfl; exact st2) | ((with_reducible apply WR.neq); exact rfl; exact rfl; exact rfl) | ((with_reducible apply WR.sb); exact rfl; exact rfl; exact rfl; (first | exact i64_in _ (by omega))) | ((with_reducible apply WR.is); exact rfl; exact rfl; exact rfl; omega) | ((with_reducible apply WR.le); exact rfl; exact rfl) | ((with_reducible apply WR.al); exact rfl; (exact rfl))
  have e : ((T.length : Int) - 1).toNat = s.length := by omega
  rw [e]
  rfl
theorem cellsOfS_gives (l : IsLawn w h g cs) (hL : LawnOk w h g) : Gives G 387 [aa cs, ai .i64 0] ⟨[.own (ofKind w h g 0).length 2 (encC (ofKind w h g 0)), .s (.int .i64 0)], []⟩ := by
  have hs := hL.1
  have hs2 := hL.2.1
  have hk : Gives G 59 [ai .i64 0] (rb true) := l01Kind_gives 0
  have ht := l01Told_gives l true
  rw [belowCode_zero.2 ⟨hL, rfl, trivial⟩] at ht
  have hc := l01Cells_gives l 0 (by omega)
  generalize ofKind w h g 0 = R at hc ⊢
  refine Gives.by rfl rfl (W.seq ?_)
  repeat' first | ((with_reducible apply WR.c_s (f := 59) (fn := Code.f59)); exact rfl; exact rfl; exact rfl; (exact rfl); (focus ((repeat' first | exact args_nil | apply args_d | exact toD_d rfl | exact toD_ptr rfl rfl | exact all_nil | apply all_cons | exact rfl); done)); exact hk) | ((with_reducible apply WR.c_s (f := 84) (fn := Code.f84)); exact rfl; exact rfl; exact rfl; (exact rfl); (focus ((repeat' first | exact args_nil | apply args_d | exact toD_d rfl | exact toD_ptr rfl rfl | exact all_nil | apply all_cons | exact rfl); done)); exact ht) | ((with_reducible apply WR.c_o (f := 29) (fn := Code.f29)); exact rfl; exact rfl; exact rfl; (exact rfl); (focus ((repeat' first | exact args_nil | apply args_d | exact toD_d rfl | exact toD_ptr rfl rfl | exact all_nil | apply all_cons | exact rfl); done)); exact hc; (exact rfl)) | ((with_reducible apply WR.mv); exact rfl; exact rfl) | ((with_reducible apply WR.nil)) | (with_reducible refine andThen_n ?_) | (with_reducible refine W.seq ?_) | (with_reducible refine W.region ?_) | (with_reducible refine W.skip ?_) | (with_reducible refine W.ret ?_) | ((with_reducible apply W.condF); exact rfl) | ((with_reducible apply Done.f); (intro hh hh2; exact (nomatch hh2)); (focus ((repeat' first | exact all_nil | apply all_cons | exact res_tmp rfl | exact rfl); done)); (focus ((repeat' first | exact all_nil | apply all_cons | exact retOf_s rfl | exact retOf_o rfl rfl (by first | exact encC_length _ | exact IsLawn.len (by assumption) | exact rfl) | exact rfl); done)); exact rfl; (focus ((repeat' first | exact outs_nil | apply outs_d | exact rfl); done))) | (intro hb; try (exfalso; omega)) | ((with_reducible apply WR.neq); exact rfl; exact rfl; exact rfl) | ((with_reducible apply WR.bx); exact rfl; exact rfl; exact (by first | exact encC_length _ | exact IsLawn.len (by assumption) | exact rfl); (exact rfl))
  rfl
theorem a2Cells_gives (l : IsLawn w h g cs) (hs : 0 ≤ w ∧ w ≤ 10 ∧ 0 ≤ h ∧ h ≤ 10) : Gives G 390 [aa cs] ⟨[.own (allC w h).length 2 (encC (allC w h))], []⟩ := by
  refine Gives.by rfl rfl (W.seq ?_)
  repeat' first | ((with_reducible apply WR.c_o (f := 60) (fn := Code.f60)); exact rfl; exact rfl; exact rfl; (exact rfl); (focus ((repeat' first | exact args_nil | apply args_d | exact toD_ptr rfl rfl | exact all_nil | apply all_cons | exact rfl); done)); exact l01All_gives (by assumption) (by omega); (exact rfl)) | ((with_reducible apply WR.c_o (f := 60) (fn := Code.f60)); exact rfl; exact rfl; exact rfl; (exact rfl); (focus ((repeat' first | exact args_nil | apply args_d | exact toD_ptr rfl rfl | exact all_nil | apply all_cons | exact rfl); done)); exact l01All_gives (by assumption) (by omega); (exact rfl)) | ((with_reducible apply WR.nil)) | (with_reducible refine andThen_n ?_) | (with_reducible refine W.seq ?_) | (with_reducible refine W.region ?_) | (with_reducible refine W.ret ?_) | ((with_reducible apply Done.f); (intro hh hh2; exact (nomatch hh2)); (focus ((repeat' first | exact all_nil | apply all_cons | exact res_tmp rfl | exact rfl); done)); (focus ((repeat' first | exact all_nil | apply all_cons | exact retOf_o rfl rfl (by first | exact encC_length _ | exact IsLawn.len (by assumption) | exact rfl) | exact rfl); done)); exact rfl; (focus ((repeat' first | exact outs_nil | apply outs_d | exact rfl); done))) | ((with_reducible apply WR.mv); exact rfl; exact rfl) | ((with_reducible apply WR.bx); exact rfl; exact rfl; exact (by first | exact encC_length _ | exact IsLawn.len (by assumption) | exact rfl); (exact rfl))
  rfl
theorem a2HasCell_gives (L : List Cel) (hl : L.length ≤ 100000) (x y : Int) : Gives G 391 [asl L, ac x y] (rb (decide ((x, y) ∈ L))) := by
  refine Gives.by rfl rfl (W.seq ?_)
  repeat' first | ((with_reducible apply WR.mv); exact rfl; exact rfl) | ((with_reducible apply WR.nil)) | (with_reducible refine andThen_n ?_) | (with_reducible refine W.seq ?_) | (with_reducible refine W.region ?_) | (with_reducible refine W.block ?_) | ((with_reducible apply WR.bx); exact rfl; exact rfl; exact (by first | exact rfl); (exact rfl))
  (refine (?_ : W _ (Code.loop _) _ _))
  (refine W.loopM [0, 3] [3] [] (fun i : (Nat) => (L.length - i : Nat)) (fun i : (Nat) => (i ≤ L.length ∧ (x, y) ∉ L.take i : Prop)) (fun i : (Nat) => [(5, .a (.d (.s (.int .i64 (i : Nat)))))]) (fun i : (Nat) => []) 0 (⟨by omega, by simp⟩) ⟨rfl, trivial⟩ trivial trivial ?_)
  rintro i σ hP hN; dsimp only [setL, putL] at hP ⊢
  obtain ⟨hi, hn⟩ := hP
  repeat' first | ((with_reducible apply WR.mv); exact rfl; exact rfl) | ((with_reducible apply WR.nil)) | (with_reducible refine andThen_n ?_) | (with_reducible refine andThen_x ?_) | (with_reducible refine andThen_r ?_) | (with_reducible refine inB_n ?_) | (with_reducible refine inB_r ?_) | (with_reducible refine inB_x ?_) | (with_reducible refine W.seq ?_) | (with_reducible refine W.region ?_) | (with_reducible refine W.skip ?_) | (with_reducible refine W.ret ?_) | (with_reducible refine W.exit ?_) | (with_reducible refine W.block ?_) | ((with_reducible apply W.condT); exact rfl) | ((with_reducible apply W.condF); exact rfl) | ((with_reducible apply Done.f); (intro hh hh2; exact (nomatch hh2)); (focus ((repeat' first | exact all_nil | apply all_cons | exact res_tmp rfl); done)); (focus ((repeat' first | exact all_nil | apply all_cons | exact retOf_s rfl); done)); exact rfl; (focus ((repeat' first | exact outs_nil | apply outs_d); done))) | ((with_reducible apply WH.nil)) | (with_reducible refine W.draw ?_) | (intro hb; try (exfalso; omega)) | ((with_reducible apply WH.mv); exact rfl; exact rfl; exact rfl) | ((with_reducible apply WH.ld); exact rfl; exact rfl; exact rfl; (first | exact ld2 | exact ldCd (by first | omega)); exact rfl) | ((with_reducible apply WH.ldd); exact rfl; exact rfl; (first | exact ld2 | exact ldCd (by first | omega)); exact rfl) | ((with_reducible apply WR.lss); exact rfl; exact rfl; exact rfl) | ((with_reducible apply WR.ad); exact rfl; exact rfl; exact rfl; (first | exact i64_in _ (by omega))) | ((with_reducible apply WR.le); exact rfl; exact rfl) | ((with_reducible apply WH.ec); exact rfl; exact rfl; exact rfl) | ((with_reducible apply WH.idn); exact rfl; exact rfl; exact rfl; omega; (first | exact Nat.le_of_eq (encC_length _).symm); exact rfl)
  · exact rb_t (by
      have hm := gC_mem (l := L) (k := i) (by omega)
      have e := (by assumption : (gC L i).1 = x ∧ (gC L i).2 = y)
      rw [← e.1, ← e.2]; exact hm)
  · (refine W.nxt (i + 1) (by first | omega | (dsimp only; omega)) ?_ ⟨rfl, trivial⟩ trivial ⟨rfl, rfl, trivial⟩ ⟨rfl, trivial⟩ trivial); (try dsimp only)
    refine ⟨by omega, fun hm => ?_⟩
    rw [List.take_add_one, gC_get (by omega)] at hm
    rcases List.mem_append.1 hm with h | h
    · exact hn h
    · simp only [Option.toList_some, List.mem_singleton] at h
      exact absurd ⟨by rw [← h], by rw [← h]⟩ (by assumption : ¬ ((gC L i).1 = x ∧ (gC L i).2 = y))
  · rw [List.take_of_length_le (by omega)] at hn
    exact rb_f hn
theorem sameList_gives (L : List Cel) (hl : L.length ≤ 100000) : Gives G 363 [asl L, asl L] (rb true) := by
  refine Gives.by rfl rfl (W.seq ?_)
  repeat' first | ((with_reducible apply WR.mv); exact rfl; exact rfl) | ((with_reducible apply WR.le); exact rfl; exact rfl) | ((with_reducible apply WR.nil)) | (with_reducible refine andThen_n ?_) | (with_reducible refine W.seq ?_) | (with_reducible refine W.region ?_) | (with_reducible refine W.skip ?_) | (with_reducible refine W.block ?_) | ((with_reducible apply W.condF); exact rfl) | (intro hb; try (exfalso; omega)) | ((with_reducible apply WR.neq); exact rfl; exact rfl; exact rfl)
  (refine (?_ : W _ (Code.loop _) _ _))
  (refine W.loopM [0, 1] [] [] (fun i : (Nat) => (L.length - i : Nat)) (fun i : (Nat) => (i ≤ L.length : Prop)) (fun i : (Nat) => [(5, .a (.d (.s (.int .i64 (i : Nat)))))]) (fun i : (Nat) => []) 0 (by (try dsimp only); first | omega | exact trivial | exact ⟨by omega, rfl⟩ | exact ⟨by omega, by omega, rfl⟩ | (refine ⟨by omega, ?_⟩; simp; done) | (simp; done)) ⟨rfl, trivial⟩ trivial trivial ?_)
  rintro i σ hP hN; dsimp only [setL, putL] at hP ⊢
  repeat' first | ((with_reducible apply WR.mv); exact rfl; exact rfl) | ((with_reducible apply WH.mv); exact rfl; exact rfl; exact rfl) | ((with_reducible apply WR.le); exact rfl; exact rfl) | ((with_reducible apply WR.nil)) | (with_reducible refine andThen_n ?_) | (with_reducible refine andThen_x ?_) | (with_reducible refine inB_n ?_) | (with_reducible refine inB_x ?_) | (with_reducible refine W.seq ?_) | (with_reducible refine W.region ?_) | (with_reducible refine W.skip ?_) | (with_reducible refine W.ret ?_) | (with_reducible refine W.exit ?_) | (with_reducible refine W.block ?_) | ((with_reducible apply W.condT); exact rfl) | ((with_reducible apply W.condF); exact rfl) | ((with_reducible apply Done.f); (intro hh hh2; exact (nomatch hh2)); (focus ((repeat' first | exact all_nil | apply all_cons | exact res_tmp rfl); done)); (focus ((repeat' first | exact all_nil | apply all_cons | exact retOf_s rfl); done)); exact rfl; (focus ((repeat' first | exact outs_nil | apply outs_d); done))) | ((with_reducible apply WH.nil)) | (with_reducible refine W.draw ?_) | (intro hb; try (exfalso; omega)) | ((with_reducible apply WH.idn); exact rfl; exact rfl; exact rfl; omega; (first | exact Nat.le_of_eq (encC_length _).symm); exact rfl) | ((with_reducible apply WH.ldd); exact rfl; exact rfl; (first | exact ldCd (by first | omega)); exact rfl) | ((with_reducible apply WR.lss); exact rfl; exact rfl; exact rfl) | ((with_reducible apply WR.ad); exact rfl; exact rfl; exact rfl; (first | exact i64_in _ (by omega))) | ((with_reducible apply WH.en); exact rfl; exact rfl; exact rfl)
  · (refine W.nxt (i + 1) (by first | omega | (dsimp only; omega)) ?_ ⟨rfl, trivial⟩ trivial ⟨rfl, rfl, trivial⟩ trivial trivial); (try dsimp only)
    omega
  · rfl
abbrev asi (L : List Int) : Arg := .d (.sl L.length 1 (encI .i64 L))
abbrev ass (L : List (List UInt8)) : Arg := .d (.sl L.length 1 (encS L))
theorem l00Same_gives (L : List Int) (hl : L.length ≤ 100000) : Gives G 400 [asi L, asi L] (rb true) := by
  refine Gives.by rfl rfl (W.seq ?_)
  repeat' first | ((with_reducible apply WR.mv); exact rfl; exact rfl) | ((with_reducible apply WR.le); exact rfl; exact rfl) | ((with_reducible apply WR.nil)) | (with_reducible refine andThen_n ?_) | (with_reducible refine W.seq ?_) | (with_reducible refine W.region ?_) | (with_reducible refine W.skip ?_) | (with_reducible refine W.block ?_) | ((with_reducible apply W.condF); exact rfl) | (intro hb; try (exfalso; omega)) | ((with_reducible apply WR.neq); exact rfl; exact rfl; exact rfl)
  (refine (?_ : W _ (Code.loop _) _ _))
  (refine W.loopM [0, 1] [] [] (fun i : (Nat) => (L.length - i : Nat)) (fun i : (Nat) => (i ≤ L.length : Prop)) (fun i : (Nat) => [(5, .a (.d (.s (.int .i64 (i : Nat)))))]) (fun i : (Nat) => []) 0 (by (try dsimp only); first | omega | exact trivial | exact ⟨by omega, rfl⟩ | exact ⟨by omega, by omega, rfl⟩ | (refine ⟨by omega, ?_⟩; simp; done) | (simp; done)) ⟨rfl, trivial⟩ trivial trivial ?_)
  rintro i σ hP hN; dsimp only [setL, putL] at hP ⊢
  repeat' first | ((with_reducible apply WR.mv); exact rfl; exact rfl) | ((with_reducible apply WH.mv); exact rfl; exact rfl; exact rfl) | ((with_reducible apply WR.le); exact rfl; exact rfl) | ((with_reducible apply WR.nil)) | (with_reducible refine andThen_n ?_) | (with_reducible refine andThen_x ?_) | (with_reducible refine inB_n ?_) | (with_reducible refine inB_x ?_) | (with_reducible refine W.seq ?_) | (with_reducible refine W.region ?_) | (with_reducible refine W.skip ?_) | (with_reducible refine W.ret ?_) | (with_reducible refine W.exit ?_) | (with_reducible refine W.block ?_) | ((with_reducible apply W.condT); exact rfl) | ((with_reducible apply W.condF); exact rfl) | ((with_reducible apply Done.f); (intro hh hh2; exact (nomatch hh2)); (focus ((repeat' first | exact all_nil | apply all_cons | exact res_tmp rfl); done)); (focus ((repeat' first | exact all_nil | apply all_cons | exact retOf_s rfl); done)); exact rfl; (focus ((repeat' first | exact outs_nil | apply outs_d); done))) | ((with_reducible apply WH.nil)) | (with_reducible refine W.draw ?_) | (intro hb; try (exfalso; omega)) | ((with_reducible apply WH.idn); exact rfl; exact rfl; exact rfl; omega; (first | exact Nat.le_of_eq ((encI_length _ _).trans (Nat.mul_one _).symm).symm); exact rfl) | ((with_reducible apply WH.ldd); exact rfl; exact rfl; (first | exact ldId (by first | omega)); exact rfl) | ((with_reducible apply WR.lss); exact rfl; exact rfl; exact rfl) | ((with_reducible apply WR.ad); exact rfl; exact rfl; exact rfl; (first | exact i64_in _ (by omega))) | ((with_reducible apply WH.neq); exact rfl; exact rfl; exact rfl)
  · (refine W.nxt (i + 1) (by first | omega | (dsimp only; omega)) ?_ ⟨rfl, trivial⟩ trivial ⟨rfl, rfl, trivial⟩ trivial trivial); (try dsimp only)
    omega
  · rfl
theorem a2Same_gives (L : List Int) (hl : L.length ≤ 100000) : Gives G 388 [asi L, asi L] (rb true) := by
  have hs := l00Same_gives L hl
  refine Gives.by rfl rfl (W.seq ?_)
  repeat' first | ((with_reducible apply WR.c_s (f := 400) (fn := Code.f400)); exact rfl; exact rfl; exact rfl; (exact rfl); (focus ((repeat' first | exact args_nil | apply args_d | exact toD_d rfl | exact all_nil | apply all_cons | exact rfl); done)); exact hs) | ((with_reducible apply WR.mv); exact rfl; exact rfl) | ((with_reducible apply WR.nil)) | (with_reducible refine andThen_n ?_) | (with_reducible refine W.seq ?_) | (with_reducible refine W.region ?_) | (with_reducible refine W.ret ?_) | ((with_reducible apply Done.f); (intro hh hh2; exact (nomatch hh2)); (focus ((repeat' first | exact all_nil | apply all_cons | exact res_tmp rfl | exact rfl); done)); (focus ((repeat' first | exact all_nil | apply all_cons | exact retOf_s rfl | exact rfl); done)); exact rfl; (focus ((repeat' first | exact outs_nil | apply outs_d | exact rfl); done)))
  rfl
theorem a2SameTexts_gives (L : List (List UInt8)) (hl : L.length ≤ 100000) : Gives G 389 [ass L, ass L] (rb true) := by
  refine Gives.by rfl rfl (W.seq ?_)
  repeat' first | ((with_reducible apply WR.mv); exact rfl; exact rfl) | ((with_reducible apply WR.le); exact rfl; exact rfl) | ((with_reducible apply WR.nil)) | (with_reducible refine andThen_n ?_) | (with_reducible refine W.seq ?_) | (with_reducible refine W.region ?_) | (with_reducible refine W.skip ?_) | (with_reducible refine W.block ?_) | ((with_reducible apply W.condF); exact rfl) | (intro hb; try (exfalso; omega)) | ((with_reducible apply WR.neq); exact rfl; exact rfl; exact rfl)
  (refine (?_ : W _ (Code.loop _) _ _))
  (refine W.loopM [0, 1] [] [] (fun i : (Nat) => (L.length - i : Nat)) (fun i : (Nat) => (i ≤ L.length : Prop)) (fun i : (Nat) => [(5, .a (.d (.s (.int .i64 (i : Nat)))))]) (fun i : (Nat) => []) 0 (by (try dsimp only); first | omega | exact trivial | exact ⟨by omega, rfl⟩ | exact ⟨by omega, by omega, rfl⟩ | (refine ⟨by omega, ?_⟩; simp; done) | (simp; done)) ⟨rfl, trivial⟩ trivial trivial ?_)
  rintro i σ hP hN; dsimp only [setL, putL] at hP ⊢
  repeat' first | ((with_reducible apply WR.mv); exact rfl; exact rfl) | ((with_reducible apply WH.mv); exact rfl; exact rfl; exact rfl) | ((with_reducible apply WR.le); exact rfl; exact rfl) | ((with_reducible apply WR.nil)) | (with_reducible refine andThen_n ?_) | (with_reducible refine andThen_x ?_) | (with_reducible refine andThen_r ?_) | (with_reducible refine inB_n ?_) | (with_reducible refine inB_r ?_) | (with_reducible refine inB_x ?_) | (with_reducible refine W.seq ?_) | (with_reducible refine W.region ?_) | (with_reducible refine W.skip ?_) | (with_reducible refine W.ret ?_) | (with_reducible refine W.exit ?_) | (with_reducible refine W.block ?_) | ((with_reducible apply W.condT); exact rfl) | ((with_reducible apply W.condF); exact rfl) | ((with_reducible apply Done.f); (intro hh hh2; exact (nomatch hh2)); (focus ((repeat' first | exact all_nil | apply all_cons | exact res_tmp rfl); done)); (focus ((repeat' first | exact all_nil | apply all_cons | exact retOf_s rfl); done)); exact rfl; (focus ((repeat' first | exact outs_nil | apply outs_d); done))) | ((with_reducible apply WH.nil)) | (with_reducible refine W.draw ?_) | (intro hb; try (exfalso; omega)) | ((with_reducible apply WH.idn); exact rfl; exact rfl; exact rfl; omega; (first | exact Nat.le_of_eq ((encS_length _).trans (Nat.mul_one _).symm).symm); exact rfl) | ((with_reducible apply WH.ldd); exact rfl; exact rfl; (first | exact ldSd (by first | omega)); exact rfl) | ((with_reducible apply WR.lss); exact rfl; exact rfl; exact rfl) | ((with_reducible apply WR.ad); exact rfl; exact rfl; exact rfl; (first | exact i64_in _ (by omega))) | ((with_reducible apply WH.snq); exact rfl; exact rfl; exact rfl)
  all_goals first
    | ((refine W.nxt (i + 1) (by first | omega | (dsimp only; omega)) ?_ ⟨rfl, trivial⟩ trivial ⟨rfl, rfl, trivial⟩ trivial trivial); (try dsimp only)
       omega)
    | rfl
    | contradiction
theorem wayC_zero {s : List UInt8} (hl : Lets s) (hn : s.length ≤ 200) : wayC s = 0 := by unfold wayC; rw [if_neg (by omega), if_pos (lets_gB hl)]
theorem opposite_gives (s : List UInt8) (j : Nat) (hk : 0 ≤ lt (gB s j)) : Gives G 401 [ai .u8 (gB s j)] (ri .u8 (((opp (s.getD j 0)).toNat : Nat) : Int)) := by
  have hb := lt_b (gB s j)
  have hi := indexByte_gives s j
  have ho : ((((opp (s.getD j 0)).toNat : Nat) : Int)) = gB [83, 69, 87, 78] (lt (gB s j)).toNat := by
    rcases lu_cases (b := s.getD j 0) hk with e | e | e | e
    all_goals
      unfold gB
      rw [e]
      decide
  rw [ho]
  generalize lt (gB s j) = k at hk hb hi ⊢
  refine Gives.by rfl rfl (W.seq ?_)
  repeat' first | ((with_reducible apply WR.c_s (f := 116) (fn := Code.f116)); exact rfl; exact rfl; exact rfl; (exact rfl); (focus ((repeat' first | exact args_nil | apply args_d | exact toD_d rfl | exact all_nil | apply all_cons | exact rfl); done)); exact hi) | ((with_reducible apply WR.ist); exact rfl; exact rfl; exact rfl; exact ⟨by omega, by show k < 4; omega⟩) | ((with_reducible apply WR.mv); exact rfl; exact rfl) | ((with_reducible apply WR.nil)) | (with_reducible refine andThen_n ?_) | (with_reducible refine W.seq ?_) | (with_reducible refine W.region ?_) | (with_reducible refine W.ret ?_) | ((with_reducible apply Done.f); (intro hh hh2; exact (nomatch hh2)); (focus ((repeat' first | exact all_nil | apply all_cons | exact res_tmp rfl | exact rfl); done)); (focus ((repeat' first | exact all_nil | apply all_cons | exact retOf_s rfl | exact rfl); done)); exact rfl; (focus ((repeat' first | exact outs_nil | apply outs_d | exact rfl); done)))
  rfl
theorem rev_step (s : List UInt8) {i : Nat} (hi : i < s.length) : (s.drop i).reverse.map opp = (s.drop (i + 1)).reverse.map opp ++ [opp (s.getD i 0)] := by
  rw [List.drop_eq_getElem_cons hi, List.reverse_cons, List.map_append]
  simp only [List.getD_eq_getElem?_getD, List.getElem?_eq_getElem hi, Option.getD_some, List.map_cons, List.map_nil]
theorem reverseWay_gives (s : List UInt8) (hl : Lets s) (hn : s.length ≤ 200) : Gives G 392 [.d (.s (.str s))] ⟨[.s (.str (revW s)), .s (.int .i64 0)], []⟩ := by
  have hw := wayCode_gives s
  rw [wayC_zero hl hn] at hw
  refine Gives.by rfl rfl (W.seq ?_)
  repeat' first | ((with_reducible apply WR.c_s (f := 111) (fn := Code.f111)); exact rfl; exact rfl; exact rfl; (exact rfl); (focus ((repeat' first | exact args_nil | apply args_d | exact toD_d rfl | exact rfl); done)); exact hw) | ((with_reducible apply WR.mv); exact rfl; exact rfl) | ((with_reducible apply WR.nil)) | (with_reducible refine andThen_n ?_) | (with_reducible refine W.seq ?_) | (with_reducible refine W.region ?_) | (with_reducible refine W.skip ?_) | (with_reducible refine W.block ?_) | ((with_reducible apply W.condF); exact rfl) | (intro hb; try (exfalso; omega)) | ((with_reducible apply WR.sb); exact rfl; exact rfl; exact rfl; (first | exact i64_in _ (by omega))) | ((with_reducible apply WR.bs); exact rfl; exact rfl; (exact rfl)) | ((with_reducible apply WR.neq); exact rfl; exact rfl; exact rfl) | ((with_reducible apply WR.le); exact rfl; exact rfl)
  (refine (?_ : W _ (Code.loop _) _ _))
  (refine W.loopM [0] [] [25, 26] (fun zz : (Nat) × (List Int) => match zz with | (i, out) => (i : Nat)) (fun zz : (Nat) × (List Int) => match zz with | (i, out) => (i ≤ s.length ∧ out = bI ((s.drop i).reverse.map opp) ∧ out.length ≤ 200 - i : Prop)) (fun zz : (Nat) × (List Int) => match zz with | (i, out) => [(5, .a (.sl 12 0 out.length 1)), (6, .a (.d (.s (.int .i64 ((i : Nat) - 1 : Int)))))]) (fun zz : (Nat) × (List Int) => match zz with | (i, out) => [(12, .flat false (encI .u8 out))]) (s.length, []) (⟨Nat.le_refl _, by simp [bI], by simp⟩) ⟨rfl, rfl, trivial⟩ ⟨rfl, trivial⟩ ⟨np, np, trivial⟩ ?_)
  rintro ⟨i, out⟩ σ hP hN; dsimp only [setL, putL] at hP ⊢; obtain ⟨n25, hN⟩ := hN; obtain ⟨n26, hN⟩ := hN
  obtain ⟨hi, ho, hol⟩ := hP
  by_cases hi0 : i = 0
  · subst hi0
    repeat' first | ((with_reducible apply WR.mv); exact rfl; exact rfl) | ((with_reducible apply WR.nil)) | (with_reducible refine andThen_n ?_) | (with_reducible refine andThen_x ?_) | (with_reducible refine inB_x ?_) | (with_reducible refine W.seq ?_) | (with_reducible refine W.region ?_) | (with_reducible refine W.ret ?_) | (with_reducible refine W.exit ?_) | ((with_reducible apply W.condF); exact rfl) | ((with_reducible apply Done.f); (intro hh hh2; exact (nomatch hh2)); (focus ((repeat' first | exact all_nil | apply all_cons | exact res_tmp rfl); done)); (focus ((repeat' first | exact all_nil | apply all_cons | exact retOf_s rfl); done)); exact rfl; (focus ((repeat' first | exact outs_nil | apply outs_d); done))) | (intro hb; try (exfalso; omega)) | ((with_reducible apply WR.ob); exact rfl; exact rfl; exact rfl) | ((with_reducible apply WR.geq); exact rfl; exact rfl; exact rfl)
    rw [ho, bI_back]
    rfl
  · obtain ⟨j, rfl⟩ : ∃ j, i = j + 1 := ⟨i - 1, by omega⟩
    have hj : j < s.length := by omega
    have hlt := lets_gB hl j hj
    have hop := opposite_gives s j hlt
    rw [show (((j + 1 : Nat) : Int) - 1) = (j : Nat) by omega]
    repeat' first | ((with_reducible apply WR.c_s (f := 401) (fn := Code.f401)); exact rfl; exact rfl; exact rfl; (exact rfl); (focus ((repeat' first | exact args_nil | apply args_d | exact toD_d rfl | exact rfl); done)); exact hop) | ((with_reducible apply WR.mv); exact rfl; exact rfl) | ((with_reducible apply WR.nil)) | (with_reducible refine andThen_n ?_) | (with_reducible refine inB_n ?_) | (with_reducible refine W.seq ?_) | (with_reducible refine W.region ?_) | (with_reducible refine W.skip ?_) | (with_reducible refine W.block ?_) | ((with_reducible apply W.condT); exact rfl) | (intro hb; try (exfalso; omega)) | ((with_reducible apply WR.bsI1); exact rfl; exact rfl; (first | exact rfl | assumption)) | ((with_reducible apply WR.sb); exact rfl; exact rfl; exact rfl; (first | exact i64_in _ (by omega) | assumption)) | ((with_reducible apply WR.ist); exact rfl; exact rfl; exact rfl; (first | omega)) | ((with_reducible apply WR.geq); exact rfl; exact rfl; exact rfl) | ((with_reducible apply WR.apI); exact rfl; exact rfl; exact rfl; exact rfl; (first | omega))
    (refine W.nxt (j, out ++ [(((opp (s.getD j 0)).toNat : Nat) : Int)]) (by first | omega | (dsimp only; omega)) ?_ ⟨rfl, rfl, trivial⟩ ⟨rfl, trivial⟩ ⟨rfl, trivial⟩ trivial ⟨np, np, trivial⟩); (try dsimp only)
    refine ⟨by omega, by rw [rev_step s hj, ho, bI_app]; rfl, by rw [List.length_append, List.length_singleton]; omega⟩
theorem reverseWayS_gives (s : List UInt8) (hl : Lets s) (hn : s.length ≤ 200) : Gives G 393 [.d (.s (.str s))] ⟨[.s (.str (revW s)), .s (.int .i64 0)], []⟩ := by
  have hw := l02Way_gives s
  rw [wayC_zero hl hn] at hw
  refine Gives.by rfl rfl (W.seq ?_)
  repeat' first | ((with_reducible apply WR.c_s (f := 107) (fn := Code.f107)); exact rfl; exact rfl; exact rfl; (exact rfl); (focus ((repeat' first | exact args_nil | apply args_d | exact toD_d rfl | exact rfl); done)); exact hw) | ((with_reducible apply WR.mv); exact rfl; exact rfl) | ((with_reducible apply WR.sb); exact rfl; exact rfl; exact rfl; (first | exact i64_in _ (by omega))) | ((with_reducible apply WR.nil)) | (with_reducible refine andThen_n ?_) | (with_reducible refine W.seq ?_) | (with_reducible refine W.region ?_) | (with_reducible refine W.skip ?_) | (with_reducible refine W.block ?_) | ((with_reducible apply W.condF); exact rfl) | (intro hb; try (exfalso; omega)) | ((with_reducible apply WR.neq); exact rfl; exact rfl; exact rfl) | ((with_reducible apply WR.le); exact rfl; exact rfl)
  (refine (?_ : W _ (Code.loop _) _ _))
  (refine W.loopM [0] [] [] (fun zz : (Nat) × (List UInt8) => match zz with | (i, out) => (i : Nat)) (fun zz : (Nat) × (List UInt8) => match zz with | (i, out) => (i ≤ s.length ∧ out = (s.drop i).reverse.map opp ∧ out.length ≤ 200 - i : Prop)) (fun zz : (Nat) × (List UInt8) => match zz with | (i, out) => [(5, .a (.d (.s (.str out)))), (6, .a (.d (.s (.int .i64 ((i : Nat) - 1 : Int)))))]) (fun zz : (Nat) × (List UInt8) => match zz with | (i, out) => []) (s.length, []) (⟨Nat.le_refl _, by simp, by simp⟩) ⟨rfl, rfl, trivial⟩ trivial trivial ?_)
  rintro ⟨i, out⟩ σ hP hN; dsimp only [setL, putL] at hP ⊢
  obtain ⟨hi, ho, hol⟩ := hP
  by_cases hi0 : i = 0
  · subst hi0
    repeat' first | ((with_reducible apply WR.mv); exact rfl; exact rfl) | ((with_reducible apply WR.nil)) | (with_reducible refine andThen_n ?_) | (with_reducible refine andThen_x ?_) | (with_reducible refine inB_x ?_) | (with_reducible refine W.seq ?_) | (with_reducible refine W.region ?_) | (with_reducible refine W.ret ?_) | (with_reducible refine W.exit ?_) | ((with_reducible apply W.condF); exact rfl) | ((with_reducible apply Done.f); (intro hh hh2; exact (nomatch hh2)); (focus ((repeat' first | exact all_nil | apply all_cons | exact res_tmp rfl); done)); (focus ((repeat' first | exact all_nil | apply all_cons | exact retOf_s rfl); done)); exact rfl; (focus ((repeat' first | exact outs_nil | apply outs_d); done))) | (intro hb; try (exfalso; omega)) | ((with_reducible apply WR.geq); exact rfl; exact rfl; exact rfl)
    rw [ho]
    rfl
  · obtain ⟨j, rfl⟩ : ∃ j, i = j + 1 := ⟨i - 1, by omega⟩
    have hj : j < s.length := by omega
    have hlt := lets_gB hl j hj
    have hlb := lt_b (gB s j)
    have hop := l02Letter_gives (gB s j)
    rw [show (((j + 1 : Nat) : Int) - 1) = (j : Nat) by omega]
    have hle : letB (3 - lt (gB s j)) = opp (s.getD j 0) := by
      rcases lu_cases (b := s.getD j 0) hlt with e | e | e | e
      all_goals
        unfold gB
        rw [e]
        decide
    generalize lt (gB s j) = k at hlt hlb hop hle
    repeat' first | ((with_reducible apply WR.c_s (f := 110) (fn := Code.f110)); exact rfl; exact rfl; exact rfl; (exact rfl); (focus ((repeat' first | exact args_nil | apply args_d | exact toD_d rfl | exact rfl); done)); exact hop) | ((with_reducible apply WR.sl1); exact rfl; exact rfl; exact rfl; exact rfl; omega) | ((with_reducible apply WR.mv); exact rfl; exact rfl) | ((with_reducible apply WR.sb); exact rfl; exact rfl; exact rfl; (first | exact i64_in _ (by omega))) | ((with_reducible apply WR.nil)) | (with_reducible refine andThen_n ?_) | (with_reducible refine inB_n ?_) | (with_reducible refine W.seq ?_) | (with_reducible refine W.region ?_) | (with_reducible refine W.skip ?_) | (with_reducible refine W.block ?_) | ((with_reducible apply W.condT); exact rfl) | (intro hb; try (exfalso; omega)) | ((with_reducible apply WR.sad); exact rfl; exact rfl; exact rfl; (first | omega | (simp only [List.length_append, List.length_cons, List.length_nil, List.length_map]; omega))) | ((with_reducible apply WR.ad); exact rfl; exact rfl; exact rfl; (first | exact i64_in _ (by omega))) | ((with_reducible apply WR.ist); exact rfl; exact rfl; exact rfl; (first | omega)) | ((with_reducible apply WR.geq); exact rfl; exact rfl; exact rfl)
    (refine W.nxt (j, out ++ [letB (3 - k)]) (by first | omega | (dsimp only; omega)) ?_ ⟨rfl, rfl, trivial⟩ trivial ⟨rfl, trivial⟩ trivial trivial); (try dsimp only)
    refine ⟨by omega, by rw [rev_step s hj, ho, hle], by rw [List.length_append, List.length_singleton]; omega⟩
end Go.DM
