/- Levels are read from their text: the reference's walk. -/
import Derived.Test.YtppmmeciihmnjaaDoorK282ReadLev
set_option linter.unusedSimpArgs false
set_option linter.unusedVariables false
set_option maxHeartbeats 4000000
namespace Go.DM
open Go.IntWalk
variable {g : Nat → Int} {cs : List S}
theorem digs_lt : ∀ (n : Nat) {s : List UInt8}, s.length = n → DigL s → 0 ≤ numV s ∧ numV s < 10 ^ n
  | 0, s, hl, _ => by
    obtain rfl : s = [] := List.eq_nil_of_length_eq_zero hl
    exact ⟨by decide, by decide⟩
  | n + 1, s, hl, hd => by
    have e := take_snoc (s := s) (i := n) (by omega)
    rw [List.take_of_length_le (by omega)] at e
    have hn : (s.take n).length = n := by rw [List.length_take]; omega
    have ih := digs_lt n hn (fun i hi => by
      have := hd i (by omega)
      have e2 : gB (s.take n) i = gB s i := by unfold gB; rw [List.getD_eq_getElem?_getD, List.getD_eq_getElem?_getD, List.getElem?_take_of_lt (by omega)]
      rw [e2]; exact this)
    have h9 := hd n (by omega)
    have h9' : 48 ≤ ((s.getD n 0).toNat : Int) ∧ ((s.getD n 0).toNat : Int) ≤ 57 := h9
    rw [e, numV_snoc, Int.pow_succ]
    omega
theorem numN_b (s : List UInt8) : 0 ≤ numN s ∧ numN s ≤ 9999999999 := by
  unfold numN
  split
  · rename_i h
    have h1 := digs_lt s.length rfl h.2
    have h2 := h.1.2.1
    have h3 : s.length = 0 ∨ 1 ≤ s.length := by omega
    rcases h3 with h3 | h3
    · rw [h3] at h1; have : (10 : Int) ^ 0 = 1 := rfl; omega
    · have h4 := pow10_le (i := s.length - 1) (by omega)
      have h5 : (10 : Int) ^ s.length = 10 ^ (s.length - 1) * 10 := by
        rw [← Int.pow_succ]; congr 1; omega
      omega
  · omega
theorem numR_N (s : List UInt8) : numR s = ⟨[.s (.int .i64 (numN s)), .s (.bool (decide (NumOk s)))], []⟩ := by
  unfold numR numN
  by_cases h : NumOk s
  · rw [if_pos h, if_pos h, decide_eq_true h]
  · rw [if_neg h, if_neg h, decide_eq_false h]
theorem l01Signed_gives (s : List UInt8) (hs : s.length ≤ 2000000) : Gives G 311 [.d (.s (.str s))] ⟨[.s (.int .i64 (sgN s)), .s (.bool (sgB s))], []⟩ := by
  by_cases h : s ≠ [] ∧ gB s 0 = 45
  · have hp := List.length_pos_iff.2 h.1
    have e2 : (s.drop 1).take (s.length - 1) = s.drop 1 := List.take_of_length_le (by simp)
    have hN : Gives G 315 [.d (.s (.str ((s.drop 1).take (s.length - 1))))] ⟨[.s (.int .i64 (numN (s.drop 1))), .s (.bool (decide (NumOk (s.drop 1))))], []⟩ := by
      rw [e2, ← numR_N]; exact l01Number_gives _ (by rw [List.length_drop]; omega)
    clear e2
    have hb := numN_b (s.drop 1)
    have hw : IntKind.i64.wrap (0 - numN (s.drop 1)) = - numN (s.drop 1) := by rw [i64_in _ (by omega), Int.zero_sub]
    have hr : (⟨[.s (.int .i64 (sgN s)), .s (.bool (sgB s))], []⟩ : Res) = ⟨[.s (.int .i64 (IntKind.i64.wrap (0 - numN (s.drop 1)))), .s (.bool (decide (NumOk (s.drop 1) ∧ 0 < numN (s.drop 1))))], []⟩ := by
      rw [hw, sgN, sgB, if_pos h, if_pos h]
    rw [hr]
    by_cases h1 : NumOk (s.drop 1)
    · rw [decide_eq_true h1] at hN
      by_cases h2 : 0 < numN (s.drop 1)
      · rw [decide_eq_true (And.intro h1 h2)]
        refine Gives.by rfl rfl (W.seq ?_)
        repeat' first | ((with_reducible apply WR.c_ss (f := 315) (fn := Code.f315)); exact rfl; exact rfl; exact rfl; (first | exact rfl); (focus ((repeat' first | exact args_nil | apply args_d | exact toD_d rfl | exact all_nil | apply all_cons | exact rfl); done)); exact hN) | ((with_reducible apply WR.mv); exact rfl; exact rfl) | ((with_reducible apply WR.mvt); exact rfl; exact rfl) | ((with_reducible apply WR.ex); exact rfl; exact rfl) | ((with_reducible apply WR.nil)) | (with_reducible refine andThen_n ?_) | (with_reducible refine andThen_r ?_) | (with_reducible refine W.seq ?_) | (with_reducible refine W.region ?_) | (with_reducible refine W.skip ?_) | (with_reducible refine W.ret ?_) | ((with_reducible apply W.condT); exact rfl) | ((with_reducible apply W.condF); exact rfl) | ((with_reducible apply Done.f); (intro hh hh2; exact (nomatch hh2)); (focus ((repeat' first | exact all_nil | apply all_cons | exact res_tmp rfl | exact rfl); done)); (focus ((repeat' first | exact all_nil | apply all_cons | exact retOf_s rfl | exact rfl); done)); exact rfl; (focus ((repeat' first | exact outs_nil | apply outs_d | exact rfl); done))) | (intro hb; try (exfalso; omega)) | ((with_reducible apply WR.off); exact rfl) | ((with_reducible apply WR.pk); exact rfl; exact rfl) | ((with_reducible apply WR.ist); exact rfl; exact rfl; exact rfl; (first | omega)) | ((with_reducible apply WR.snq); exact rfl; exact rfl; exact rfl) | ((with_reducible apply WR.sst); exact rfl; exact rfl; exact rfl; exact rfl; exact ⟨by omega, by omega⟩) | ((with_reducible apply WR.gtr); exact rfl; exact rfl; exact rfl) | ((with_reducible apply WR.eql); exact rfl; exact rfl; exact rfl) | ((with_reducible apply WR.un); exact rfl; exact rfl)
        all_goals try simp only [gB_zero] at *
        all_goals first
          | (exfalso; first | omega | (exact h.1 (by assumption)) | (exact absurd h.2 (by assumption)))
          | rfl
      · rw [decide_eq_false (fun hh : NumOk (s.drop 1) ∧ _ => h2 hh.2)]
        refine Gives.by rfl rfl (W.seq ?_)
        repeat' first | ((with_reducible apply WR.c_ss (f := 315) (fn := Code.f315)); exact rfl; exact rfl; exact rfl; (first | exact rfl); (focus ((repeat' first | exact args_nil | apply args_d | exact toD_d rfl | exact all_nil | apply all_cons | exact rfl); done)); exact hN) | ((with_reducible apply WR.mv); exact rfl; exact rfl) | ((with_reducible apply WR.mvt); exact rfl; exact rfl) | ((with_reducible apply WR.ex); exact rfl; exact rfl) | ((with_reducible apply WR.nil)) | (with_reducible refine andThen_n ?_) | (with_reducible refine andThen_r ?_) | (with_reducible refine W.seq ?_) | (with_reducible refine W.region ?_) | (with_reducible refine W.skip ?_) | (with_reducible refine W.ret ?_) | ((with_reducible apply W.condT); exact rfl) | ((with_reducible apply W.condF); exact rfl) | ((with_reducible apply Done.f); (intro hh hh2; exact (nomatch hh2)); (focus ((repeat' first | exact all_nil | apply all_cons | exact res_tmp rfl | exact rfl); done)); (focus ((repeat' first | exact all_nil | apply all_cons | exact retOf_s rfl | exact rfl); done)); exact rfl; (focus ((repeat' first | exact outs_nil | apply outs_d | exact rfl); done))) | (intro hb; try (exfalso; omega)) | ((with_reducible apply WR.off); exact rfl) | ((with_reducible apply WR.pk); exact rfl; exact rfl) | ((with_reducible apply WR.ist); exact rfl; exact rfl; exact rfl; (first | omega)) | ((with_reducible apply WR.snq); exact rfl; exact rfl; exact rfl) | ((with_reducible apply WR.sst); exact rfl; exact rfl; exact rfl; exact rfl; exact ⟨by omega, by omega⟩) | ((with_reducible apply WR.gtr); exact rfl; exact rfl; exact rfl) | ((with_reducible apply WR.eql); exact rfl; exact rfl; exact rfl) | ((with_reducible apply WR.un); exact rfl; exact rfl)
        all_goals try simp only [gB_zero] at *
        all_goals first
          | (exfalso; first | omega | (exact h.1 (by assumption)) | (exact absurd h.2 (by assumption)))
          | rfl
    · rw [decide_eq_false h1] at hN
      rw [decide_eq_false (fun hh : NumOk (s.drop 1) ∧ _ => h1 hh.1)]
      refine Gives.by rfl rfl (W.seq ?_)
      repeat' first | ((with_reducible apply WR.c_ss (f := 315) (fn := Code.f315)); exact rfl; exact rfl; exact rfl; (first | exact rfl); (focus ((repeat' first | exact args_nil | apply args_d | exact toD_d rfl | exact all_nil | apply all_cons | exact rfl); done)); exact hN) | ((with_reducible apply WR.mv); exact rfl; exact rfl) | ((with_reducible apply WR.mvt); exact rfl; exact rfl) | ((with_reducible apply WR.ex); exact rfl; exact rfl) | ((with_reducible apply WR.nil)) | (with_reducible refine andThen_n ?_) | (with_reducible refine andThen_r ?_) | (with_reducible refine W.seq ?_) | (with_reducible refine W.region ?_) | (with_reducible refine W.skip ?_) | (with_reducible refine W.ret ?_) | ((with_reducible apply W.condT); exact rfl) | ((with_reducible apply W.condF); exact rfl) | ((with_reducible apply Done.f); (intro hh hh2; exact (nomatch hh2)); (focus ((repeat' first | exact all_nil | apply all_cons | exact res_tmp rfl | exact rfl); done)); (focus ((repeat' first | exact all_nil | apply all_cons | exact retOf_s rfl | exact rfl); done)); exact rfl; (focus ((repeat' first | exact outs_nil | apply outs_d | exact rfl); done))) | (intro hb; try (exfalso; omega)) | ((with_reducible apply WR.off); exact rfl) | ((with_reducible apply WR.pk); exact rfl; exact rfl) | ((with_reducible apply WR.ist); exact rfl; exact rfl; exact rfl; (first | omega)) | ((with_reducible apply WR.snq); exact rfl; exact rfl; exact rfl) | ((with_reducible apply WR.sst); exact rfl; exact rfl; exact rfl; exact rfl; exact ⟨by omega, by omega⟩) | ((with_reducible apply WR.eql); exact rfl; exact rfl; exact rfl) | ((with_reducible apply WR.un); exact rfl; exact rfl)
      all_goals try simp only [gB_zero] at *
      all_goals first
        | (exfalso; first | omega | (exact h.1 (by assumption)) | (exact absurd h.2 (by assumption)))
        | rfl
  · have hN := l01Number_gives s hs
    rw [numR_N] at hN
    rw [sgN, sgB, if_neg h, if_neg h]
    refine Gives.by rfl rfl (W.seq ?_)
    by_cases h0 : s = []
    · subst h0
      repeat' first | ((with_reducible apply WR.c_ss (f := 315) (fn := Code.f315)); exact rfl; exact rfl; exact rfl; (first | exact rfl); (focus ((repeat' first | exact args_nil | apply args_d | exact toD_d rfl | exact all_nil | apply all_cons | exact rfl); done)); exact hN) | ((with_reducible apply WR.mv); exact rfl; exact rfl) | ((with_reducible apply WR.ex); exact rfl; exact rfl) | ((with_reducible apply WR.nil)) | (with_reducible refine andThen_n ?_) | (with_reducible refine W.seq ?_) | (with_reducible refine W.region ?_) | (with_reducible refine W.skip ?_) | (with_reducible refine W.ret ?_) | ((with_reducible apply W.condF); exact rfl) | ((with_reducible apply Done.f); (intro hh hh2; exact (nomatch hh2)); (focus ((repeat' first | exact all_nil | apply all_cons | exact res_tmp rfl | exact rfl); done)); (focus ((repeat' first | exact all_nil | apply all_cons | exact retOf_s rfl | exact rfl); done)); exact rfl; (focus ((repeat' first | exact outs_nil | apply outs_d | exact rfl); done))) | (intro hb; try (exfalso; omega)) | ((with_reducible apply WR.off); exact rfl) | ((with_reducible apply WR.pk); exact rfl; exact rfl) | ((with_reducible apply WR.snq); exact rfl; exact rfl; exact rfl)
      all_goals first
        | (exfalso; exact absurd rfl (by assumption))
        | rfl
    · have hp := List.length_pos_iff.2 h0
      have h45 : ¬ gB s (Int.toNat 0) = 45 := fun e => h ⟨h0, e⟩
      repeat' first | ((with_reducible apply WR.c_ss (f := 315) (fn := Code.f315)); exact rfl; exact rfl; exact rfl; (first | exact rfl); (focus ((repeat' first | exact args_nil | apply args_d | exact toD_d rfl | exact all_nil | apply all_cons | exact rfl); done)); exact hN) | ((with_reducible apply WR.mv); exact rfl; exact rfl) | ((with_reducible apply WR.ex); exact rfl; exact rfl) | ((with_reducible apply WR.nil)) | (with_reducible refine andThen_n ?_) | (with_reducible refine W.seq ?_) | (with_reducible refine W.region ?_) | (with_reducible refine W.skip ?_) | (with_reducible refine W.ret ?_) | ((with_reducible apply W.condF); exact rfl) | ((with_reducible apply Done.f); (intro hh hh2; exact (nomatch hh2)); (focus ((repeat' first | exact all_nil | apply all_cons | exact res_tmp rfl | exact rfl); done)); (focus ((repeat' first | exact all_nil | apply all_cons | exact retOf_s rfl | exact rfl); done)); exact rfl; (focus ((repeat' first | exact outs_nil | apply outs_d | exact rfl); done))) | (intro hb; try (exfalso; omega)) | ((with_reducible apply WR.off); exact rfl) | ((with_reducible apply WR.pk); exact rfl; exact rfl) | ((with_reducible apply WR.ist); exact rfl; exact rfl; exact rfl; (first | omega)) | ((with_reducible apply WR.snq); exact rfl; exact rfl; exact rfl) | ((with_reducible apply WR.eql); exact rfl; exact rfl; exact rfl)
      all_goals first
        | (exfalso; first | exact h0 (by assumption) | exact h45 (by assumption))
        | rfl
theorem fields_len {s w : List UInt8} (h : w ∈ fieldsL s) : w.length ≤ s.length := by
  unfold fieldsL Lib.goFieldsP at h
  rw [List.map_map] at h
  obtain ⟨x, _, rfl⟩ := List.mem_map.1 h
  show ((⟨s.toArray⟩ : ByteArray).extract x.1 x.2).data.toList.length ≤ _
  rw [ByteArray.data_extract, Array.toList_extract, List.extract_eq_take_drop]
  simp; omega
theorem fields_gives (s : List UInt8) (hs : s.length ≤ 2000000) : Gives G 312 [.d (.s (.str s)), .d (.clo 313 [] [])] ⟨[.own (fieldsL s).length 1 (encS (fieldsL s))], []⟩ :=
  Gives.given rfl rfl (by
    simp only [fieldsO]
    rw [if_pos ⟨trivial, hs⟩, encS_map])
theorem grid_congr {k : IntKind} {p q : Nat → Int} (h : ∀ i, i < 100 → p i = q i) : grid k p = grid k q :=
  List.map_congr_left fun i hi => by rw [h i (List.mem_range.1 hi)]
open Classical in
noncomputable def readLR (W H : Nat) (g : Nat → Int) (s : List UInt8) : Res :=
  if GoodL W H g s W H then ⟨[.agg (grid .i8 (lvA s W H)), .s (.int .i64 0)], []⟩ else ⟨[.agg (List.replicate 100 (.int .i8 0)), .s (.int .i64 5)], []⟩
theorem goodL_parts {W H : Nat} {s : List UInt8} {ls : List (List UInt8)} (hls : pieces 10 s = ls) (gd : GoodL W H g s W H) :
    ls.length = H + 1 ∧ ∀ y, y < H → (pieces 32 (gS ls y)).length = W ∧ ∀ x, x < W → sgB (gS (pieces 32 (gS ls y)) x) = true ∧ -9 ≤ sgN (gS (pieces 32 (gS ls y)) x) ∧ sgN (gS (pieces 32 (gS ls y)) x) ≤ 9 := by
  obtain ⟨hok, ht⟩ := gd
  have hz := hok.1.1; have hz2 := hok.1.2.1
  have hq := levOk_in hok
  generalize lvA s W H = q at hok ht hq
  rw [← ht, rows_lines hq (by omega) (by omega)] at hls
  subst hls
  refine ⟨by simp, fun y hy => ?_⟩
  have e1 : gS (((List.range H).map fun y => rowT q y W) ++ [[]]) y = rowT q y W := by
    simp [gS, List.getD_eq_getElem?_getD, List.getElem?_append_left, hy]
  rw [e1, rowT_words hq (by omega) (by omega)]
  refine ⟨by simp, fun x hx => ?_⟩
  have e2 : gS ((List.range W).map fun k => itemT (q (10 * y + k))) x = itemT (q (10 * y + x)) := by
    simp [gS, List.getD_eq_getElem?_getD, List.getElem?_range hx]
  have hb := hq (10 * y + x) (by omega)
  have hi := item_read hb
  rw [e2, hi.1, hi.2.1]
  exact ⟨rfl, hb⟩
theorem specRL_gives {W0 H0 : Nat} (l : IsLawn (W0 : Int) (H0 : Int) g cs) (hok : LawnOk (W0 : Int) (H0 : Int) g) (s : List UInt8) (hs : s.length ≤ 1048576) : Gives G 294 [aa cs, .d (.s (.str s))] (readLR W0 H0 g s) := by
  have hz := hok.1; have hz2 := hok.2.1
  have hlw := l.w; have hlh := l.h
  have hne := pieces_ne 10 s
  have hle := pieces_le 10 s
  have hmem : ∀ w ∈ pieces 10 s, w.length ≤ 1048576 := fun w hw => Nat.le_trans (piece_len hw) hs
  have hV := l01Ok_gives l
  rw [decide_eq_true hok] at hV
  have hsp : Gives G 236 [.d (.s (.str s)), .d (.s (.int .u8 10))] ⟨[.own (pieces 10 s).length 1 (encS (pieces 10 s))], []⟩ := l01Split_gives s 10 (by omega)
  have hwA : ∀ k, wordA s k = gS (pieces 32 (gS (pieces 10 s) (k / 10))) (k % 10) := fun k => rfl
  have hgp := fun gd => goodL_parts (g := g) (W := W0) (H := H0) (s := s) (ls := pieces 10 s) rfl gd
  generalize pieces 10 s = ls at hne hle hsp hmem hwA hgp
  have hpos : 1 ≤ ls.length := List.length_pos_iff.2 hne
  have bad : ¬ GoodL W0 H0 g s W0 H0 → (⟨[.agg (List.replicate 100 (S.int IntKind.i8 0)), .s (S.int IntKind.i64 5)], []⟩ : Res) = readLR W0 H0 g s := fun h => by rw [readLR, if_neg h]
  refine Gives.by rfl rfl (W.seq ?_)
  repeat' first | ((with_reducible apply WR.c_s (f := 28) (fn := Code.f28)); exact rfl; exact rfl; exact rfl; (first | exact rfl); (focus ((repeat' first | exact args_nil | apply args_d | exact toD_d rfl | exact toD_ptr rfl rfl | exact all_nil | apply all_cons | exact rfl); done)); exact hV) | ((with_reducible apply WR.c_o (f := 236) (fn := Code.f236)); exact rfl; exact rfl; exact rfl; (first | exact rfl); (focus ((repeat' first | exact args_nil | apply args_d | exact toD_d rfl | exact toD_ptr rfl rfl | exact all_nil | apply all_cons | exact rfl); done)); exact hsp; (first | exact rfl)) | ((with_reducible apply WR.mv); exact rfl; exact rfl) | ((with_reducible apply WR.st); exact rfl; exact rfl; exact rfl; exact storeAll (by first | exact List.length_replicate .. | exact IsLawn.len (by assumption) | exact rfl) (by first | exact List.length_replicate .. | exact IsLawn.len (by assumption) | exact rfl)) | ((with_reducible apply WR.ld); exact rfl; exact rfl; exact rfl; (first | exact lawn_h (by assumption))) | ((with_reducible apply WR.bu); exact rfl; exact rfl) | ((with_reducible apply WR.cv); exact rfl; exact rfl; (first | exact i64_in _ (by omega))) | ((with_reducible apply WR.un); exact rfl; exact rfl) | ((with_reducible apply WR.neq); exact rfl; exact rfl; exact rfl) | ((with_reducible apply WR.ad); exact rfl; exact rfl; exact rfl; (first | exact i64_in _ (by omega))) | ((with_reducible apply WR.fa); exact rfl; exact rfl) | ((with_reducible apply WR.le); exact rfl; exact rfl) | ((with_reducible apply WR.nil)) | (with_reducible refine andThen_n ?_) | (with_reducible refine andThen_r ?_) | (with_reducible refine W.seq ?_) | (with_reducible refine W.region ?_) | (with_reducible refine W.skip ?_) | (with_reducible refine W.ret ?_) | (with_reducible refine W.block ?_) | ((with_reducible apply W.condT); exact rfl) | ((with_reducible apply W.condF); exact rfl) | ((with_reducible apply Done.f); (intro hh hh2; exact (nomatch hh2)); (focus ((repeat' first | exact all_nil | apply all_cons | exact res_tmp rfl | exact res_cell rfl rfl (by first | exact List.length_replicate .. | exact IsLawn.len (by assumption) | exact rfl) | exact rfl); done)); (focus ((repeat' first | exact all_nil | apply all_cons | exact retOf_s rfl | exact retOf_a rfl | exact rfl); done)); exact rfl; (focus ((repeat' first | exact outs_nil | apply outs_d | exact rfl); done))) | (intro hb; try (exfalso; omega)) | ((with_reducible apply WR.al); exact rfl; (first | exact rfl)) | ((with_reducible apply WR.bx); exact rfl; exact rfl; exact (by first | exact List.length_replicate .. | exact IsLawn.len (by assumption) | exact rfl); (first | exact rfl))
  all_goals try (exfalso; exact absurd hok (by assumption))
  all_goals try (exact bad fun gd => by have := (hgp gd).1; omega)
  (refine (?_ : W _ (Code.loop _) _ _))
  (refine W.loopM [1, 2, 4, 6, 7] [2, 17] [38] (fun zz : (Nat) × (Nat → Int) => match zz with | (y, q) => (H0 - y : Nat)) (fun zz : (Nat) × (Nat → Int) => match zz with | (y, q) => (y ≤ H0 ∧ q = rdL s W0 y 0 ∧ ∀ k, -9 ≤ q k ∧ q k ≤ 9 : Prop)) (fun zz : (Nat) × (Nat → Int) => match zz with | (y, q) => [(8, .a (.d (.s (.int .i64 (y : Nat)))))]) (fun zz : (Nat) × (Nat → Int) => match zz with | (y, q) => [(4, .flat false (List.replicate 100 (.int .i8 0))), (7, .flat false (grid .i8 q))]) (0, fun _ => 0) (⟨by omega, (rdL_zero _ _).symm, fun k => ⟨by show (-9 : Int) ≤ 0; decide, by show (0 : Int) ≤ 9; decide⟩⟩) ⟨rfl, trivial⟩ ⟨rfl, rfl, trivial⟩ ⟨(by (repeat' first | exact rfl | assumption | (with_reducible apply noPar_set) | ((with_reducible apply noPar_puto); exact rfl) | (with_reducible apply noPar_put) | (with_reducible apply noPar_putv) | (with_reducible apply noPar_kill) | ((with_reducible apply noPar_mix); exact rfl) | ((with_reducible apply noPar_mixT); exact rfl)); done), trivial⟩ ?_)
  rintro ⟨y, q⟩ σ hP hN; dsimp only [setL, putL] at hP ⊢; obtain ⟨n38, hN⟩ := hN
  obtain ⟨hy, hq, hq9⟩ := hP
  by_cases hyl : y < H0
  · have hm := hmem _ (gS_mem (l := ls) (k := y) (by omega))
    have hsp2 : Gives G 236 [.d (.s (.str (gS ls y))), .d (.s (.int .u8 32))] ⟨[.own (pieces 32 (gS ls y)).length 1 (encS (pieces 32 (gS ls y)))], []⟩ := l01Split_gives (gS ls y) 32 (by omega)
    have hmem2 : ∀ w ∈ pieces 32 (gS ls y), w.length ≤ 1048576 := fun w hw => Nat.le_trans (piece_len hw) hm
    have hgp2 := fun gd => (hgp gd).2 y hyl
    have hwA2 : ∀ x, x < 10 → wordA s (10 * y + x) = gS (pieces 32 (gS ls y)) x := fun x hx => by
      rw [hwA, show (10 * y + x) / 10 = y by omega, show (10 * y + x) % 10 = x by omega]
    generalize pieces 32 (gS ls y) = ws at hsp2 hmem2 hgp2 hwA2
    repeat' first | ((with_reducible apply WR.c_o (f := 236) (fn := Code.f236)); exact rfl; exact rfl; exact rfl; (first | exact rfl); (focus ((repeat' first | exact args_nil | apply args_d | exact toD_d rfl | exact all_nil | apply all_cons | exact rfl); done)); exact hsp2; (first | exact rfl | assumption)) | ((with_reducible apply WR.mv); exact rfl; exact rfl) | ((with_reducible apply WR.st); exact rfl; exact rfl; exact rfl; exact storeAll (by first | exact List.length_replicate .. | assumption | exact rfl) (by first | exact List.length_replicate .. | assumption | exact rfl)) | ((with_reducible apply WR.ld); exact rfl; exact rfl; exact rfl; (first | exact ldS (by first | omega) | exact lawn_w (by assumption) | exact lawn_h (by assumption))) | ((with_reducible apply WR.bu); exact rfl; exact rfl) | ((with_reducible apply WR.cv); exact rfl; exact rfl; (first | exact i64_in _ (by omega) | assumption)) | ((with_reducible apply WR.neq); exact rfl; exact rfl; exact rfl) | ((with_reducible apply WR.fa); exact rfl; exact rfl) | ((with_reducible apply WR.le); exact rfl; exact rfl) | ((with_reducible apply WR.nil)) | (with_reducible refine andThen_n ?_) | (with_reducible refine andThen_r ?_) | (with_reducible refine inB_r ?_) | (with_reducible refine W.seq ?_) | (with_reducible refine W.region ?_) | (with_reducible refine W.skip ?_) | (with_reducible refine W.ret ?_) | (with_reducible refine W.block ?_) | ((with_reducible apply W.condT); exact rfl) | ((with_reducible apply W.condF); exact rfl) | ((with_reducible apply Done.f); (intro hh hh2; exact (nomatch hh2)); (focus ((repeat' first | exact all_nil | apply all_cons | exact res_tmp rfl | exact res_cell rfl rfl (by first | exact List.length_replicate .. | assumption | exact rfl) | exact rfl); done)); (focus ((repeat' first | exact all_nil | apply all_cons | exact retOf_s rfl | exact retOf_a rfl | exact rfl); done)); exact rfl; (focus ((repeat' first | exact outs_nil | apply outs_d | exact rfl); done))) | (intro hb; try (exfalso; omega)) | ((with_reducible apply WR.lss); exact rfl; exact rfl; exact rfl) | ((with_reducible apply WR.isn); exact rfl; exact rfl; exact rfl; omega)
    all_goals try (exact bad fun gd => by have := (hgp2 gd).1; omega)
    (refine (?_ : W _ (Code.loop _) _ _))
    (refine W.loopM [1, 2, 4, 6, 7, 8, 9] [2, 17, 38] [38] (fun zz : (Nat) × (Nat → Int) => match zz with | (x, q) => (W0 - x : Nat)) (fun zz : (Nat) × (Nat → Int) => match zz with | (x, q) => (x ≤ W0 ∧ q = rdL s W0 y x ∧ ∀ k, -9 ≤ q k ∧ q k ≤ 9 : Prop)) (fun zz : (Nat) × (Nat → Int) => match zz with | (x, q) => [(10, .a (.d (.s (.int .i64 (x : Nat)))))]) (fun zz : (Nat) × (Nat → Int) => match zz with | (x, q) => [(4, .flat false (List.replicate 100 (.int .i8 0))), (7, .flat false (grid .i8 q))]) (0, q) (⟨by omega, hq, hq9⟩) ⟨rfl, trivial⟩ ⟨rfl, rfl, trivial⟩ ⟨(by (repeat' first | exact rfl | assumption | (with_reducible apply noPar_set) | ((with_reducible apply noPar_puto); exact rfl) | (with_reducible apply noPar_put) | (with_reducible apply noPar_putv) | (with_reducible apply noPar_kill) | ((with_reducible apply noPar_mix); exact rfl) | ((with_reducible apply noPar_mixT); exact rfl)); done), trivial⟩ ?_)
    rintro ⟨x, q⟩ σ hP hN; dsimp only [setL, putL] at hP ⊢; obtain ⟨n38, hN⟩ := hN
    clear hq9 hq
    obtain ⟨hx, hq, hq9⟩ := hP
    by_cases hxl : x < W0
    · have hm2 := hmem2 _ (gS_mem (l := ws) (k := x) (by omega))
      have hSg := l01Signed_gives (gS ws x) (by omega)
      have hgp3 := fun gd => (hgp2 gd).2 x hxl
      by_cases hb1 : sgB (gS ws x) = true ∧ -9 ≤ sgN (gS ws x) ∧ sgN (gS ws x) ≤ 9
      · rw [hb1.1] at hSg
        repeat' first | ((with_reducible apply WR.c_ss (f := 311) (fn := Code.f311)); exact rfl; exact rfl; exact rfl; (first | exact rfl); (focus ((repeat' first | exact args_nil | apply args_d | exact toD_d rfl | exact rfl); done)); exact hSg) | ((with_reducible apply WR.c_p (f := 91) (fn := Code.f91)); exact rfl; exact rfl; exact rfl; (first | exact rfl); (focus ((repeat' first | exact args_nil | apply args_d | exact toD_d rfl | exact rfl); done)); exact l06Level_gives _) | ((with_reducible apply WR.mv); exact rfl; exact rfl) | ((with_reducible apply WR.mvt); exact rfl; exact rfl) | ((with_reducible apply WR.st); exact rfl; exact rfl; exact rfl; exact stG (by omega)) | ((with_reducible apply WR.ld); exact rfl; exact rfl; exact rfl; (first | exact ldS (by first | omega))) | ((with_reducible apply WR.cv); exact rfl; exact rfl; (first | exact i64_in _ (by omega) | exact i8_in _ (by omega))) | ((with_reducible apply WR.un); exact rfl; exact rfl) | ((with_reducible apply WR.ad); exact rfl; exact rfl; exact rfl; (first | exact i64_in _ (by omega) | exact i8_in _ (by omega))) | ((with_reducible apply WR.le); exact rfl; exact rfl) | ((with_reducible apply WR.nil)) | (with_reducible refine andThen_n ?_) | (with_reducible refine inB_n ?_) | (with_reducible refine W.seq ?_) | (with_reducible refine W.region ?_) | (with_reducible refine W.skip ?_) | (with_reducible refine W.block ?_) | ((with_reducible apply W.condT); exact rfl) | ((with_reducible apply W.condF); exact rfl) | (intro hb; try (exfalso; omega)) | ((with_reducible apply WR.lss); exact rfl; exact rfl; exact rfl) | ((with_reducible apply WR.isn); exact rfl; exact rfl; exact rfl; omega) | ((with_reducible apply WR.ia); exact rfl; exact rfl; exact rfl; omega) | ((with_reducible apply WR.pk); exact rfl; exact rfl) | ((with_reducible apply WR.ex); exact rfl; exact rfl)
        all_goals try (exfalso; exact absurd hb1.2 (by assumption))
        (refine W.nxt ((x + 1, gset q (10 * y + x) (sgN (gS ws x)))) (by first | omega | (dsimp only; omega)) ?_ ⟨rfl, trivial⟩ ⟨rfl, rfl, trivial⟩ ⟨rfl, rfl, rfl, rfl, rfl, rfl, rfl, trivial⟩ ⟨rfl, rfl, rfl, trivial⟩ ⟨(by (repeat' first | exact rfl | assumption | (with_reducible apply noPar_set) | ((with_reducible apply noPar_puto); exact rfl) | (with_reducible apply noPar_put) | (with_reducible apply noPar_putv) | (with_reducible apply noPar_kill) | ((with_reducible apply noPar_mix); exact rfl) | ((with_reducible apply noPar_mixT); exact rfl)); done), trivial⟩); (try dsimp only)
        refine ⟨by omega, ?_, fun k => ?_⟩
        · rw [hq, ← hwA2 x (by omega), rdL_step hxl (by omega)]
        · unfold gset
          split
          · exact hb1.2
          · exact hq9 k
      · have ng : ¬ GoodL W0 H0 g s W0 H0 := fun gd => hb1 (hgp3 gd)
        cases hsb : sgB (gS ws x) with
        | true =>
          rw [hsb] at hSg
          repeat' first | ((with_reducible apply WR.c_ss (f := 311) (fn := Code.f311)); exact rfl; exact rfl; exact rfl; (first | exact rfl); (focus ((repeat' first | exact args_nil | apply args_d | exact toD_d rfl | exact all_nil | apply all_cons | exact rfl); done)); exact hSg) | ((with_reducible apply WR.c_p (f := 91) (fn := Code.f91)); exact rfl; exact rfl; exact rfl; (first | exact rfl); (focus ((repeat' first | exact args_nil | apply args_d | exact toD_d rfl | exact all_nil | apply all_cons | exact rfl); done)); exact l06Level_gives _) | ((with_reducible apply WR.mv); exact rfl; exact rfl) | ((with_reducible apply WR.mvt); exact rfl; exact rfl) | ((with_reducible apply WR.st); exact rfl; exact rfl; exact rfl; exact storeAll (by first | exact List.length_replicate .. | exact IsLawn.len (by assumption) | exact rfl) (by first | exact List.length_replicate .. | exact IsLawn.len (by assumption) | exact rfl)) | ((with_reducible apply WR.st); exact rfl; exact rfl; exact rfl; exact stG (by omega)) | ((with_reducible apply WR.ld); exact rfl; exact rfl; exact rfl; (first | exact ldS (by first | omega))) | ((with_reducible apply WR.bu); exact rfl; exact rfl) | ((with_reducible apply WR.cv); exact rfl; exact rfl; (first | exact i64_in _ (by omega) | exact i8_in _ (by omega))) | ((with_reducible apply WR.un); exact rfl; exact rfl) | ((with_reducible apply WR.ad); exact rfl; exact rfl; exact rfl; (first | exact i64_in _ (by omega) | exact i8_in _ (by omega))) | ((with_reducible apply WR.le); exact rfl; exact rfl) | ((with_reducible apply WR.nil)) | (with_reducible refine andThen_n ?_) | (with_reducible refine andThen_r ?_) | (with_reducible refine inB_n ?_) | (with_reducible refine inB_r ?_) | (with_reducible refine W.seq ?_) | (with_reducible refine W.region ?_) | (with_reducible refine W.skip ?_) | (with_reducible refine W.ret ?_) | (with_reducible refine W.block ?_) | ((with_reducible apply W.condT); exact rfl) | ((with_reducible apply W.condF); exact rfl) | ((with_reducible apply Done.f); (intro hh hh2; exact (nomatch hh2)); (focus ((repeat' first | exact all_nil | apply all_cons | exact res_tmp rfl | exact res_cell rfl rfl (by first | exact List.length_replicate .. | exact IsLawn.len (by assumption) | exact rfl) | exact rfl); done)); (focus ((repeat' first | exact all_nil | apply all_cons | exact retOf_s rfl | exact retOf_a rfl | exact rfl); done)); exact rfl; (focus ((repeat' first | exact outs_nil | apply outs_d | exact rfl); done))) | (intro hb; try (exfalso; omega)) | ((with_reducible apply WR.lss); exact rfl; exact rfl; exact rfl) | ((with_reducible apply WR.isn); exact rfl; exact rfl; exact rfl; omega) | ((with_reducible apply WR.ia); exact rfl; exact rfl; exact rfl; omega) | ((with_reducible apply WR.pk); exact rfl; exact rfl) | ((with_reducible apply WR.ex); exact rfl; exact rfl)
          all_goals first
            | exact bad ng
            | (exfalso; exact hb1 ⟨hsb, by assumption⟩)
        | false =>
          rw [hsb] at hSg
          repeat' first | ((with_reducible apply WR.c_ss (f := 311) (fn := Code.f311)); exact rfl; exact rfl; exact rfl; (first | exact rfl); (focus ((repeat' first | exact args_nil | apply args_d | exact toD_d rfl | exact all_nil | apply all_cons | exact rfl); done)); exact hSg) | ((with_reducible apply WR.mv); exact rfl; exact rfl) | ((with_reducible apply WR.mvt); exact rfl; exact rfl) | ((with_reducible apply WR.st); exact rfl; exact rfl; exact rfl; exact storeAll (by first | exact List.length_replicate .. | exact rfl) (by first | exact List.length_replicate .. | exact rfl)) | ((with_reducible apply WR.ld); exact rfl; exact rfl; exact rfl; (first | exact ldS (by first | omega))) | ((with_reducible apply WR.bu); exact rfl; exact rfl) | ((with_reducible apply WR.un); exact rfl; exact rfl) | ((with_reducible apply WR.off); exact rfl) | ((with_reducible apply WR.le); exact rfl; exact rfl) | ((with_reducible apply WR.nil)) | (with_reducible refine andThen_n ?_) | (with_reducible refine andThen_r ?_) | (with_reducible refine inB_r ?_) | (with_reducible refine W.seq ?_) | (with_reducible refine W.region ?_) | (with_reducible refine W.skip ?_) | (with_reducible refine W.ret ?_) | (with_reducible refine W.block ?_) | ((with_reducible apply W.condT); exact rfl) | ((with_reducible apply Done.f); (intro hh hh2; exact (nomatch hh2)); (focus ((repeat' first | exact all_nil | apply all_cons | exact res_tmp rfl | exact res_cell rfl rfl (by first | exact List.length_replicate .. | exact rfl) | exact rfl); done)); (focus ((repeat' first | exact all_nil | apply all_cons | exact retOf_s rfl | exact retOf_a rfl | exact rfl); done)); exact rfl; (focus ((repeat' first | exact outs_nil | apply outs_d | exact rfl); done))) | (intro hb; try (exfalso; omega)) | ((with_reducible apply WR.lss); exact rfl; exact rfl; exact rfl) | ((with_reducible apply WR.isn); exact rfl; exact rfl; exact rfl; omega) | ((with_reducible apply WR.pk); exact rfl; exact rfl) | ((with_reducible apply WR.ex); exact rfl; exact rfl)
          all_goals exact bad ng
    · obtain rfl : x = W0 := by omega
      repeat' first | ((with_reducible apply WR.mv); exact rfl; exact rfl) | ((with_reducible apply WR.ad); exact rfl; exact rfl; exact rfl; (first | exact i64_in _ (by omega))) | ((with_reducible apply WR.le); exact rfl; exact rfl) | ((with_reducible apply WR.nil)) | (with_reducible refine andThen_n ?_) | (with_reducible refine andThen_x ?_) | (with_reducible refine inB_n ?_) | (with_reducible refine inB_x ?_) | (with_reducible refine W.seq ?_) | (with_reducible refine W.region ?_) | (with_reducible refine W.exit ?_) | ((with_reducible apply W.condF); exact rfl) | (intro hb; try (exfalso; omega)) | ((with_reducible apply WR.lss); exact rfl; exact rfl; exact rfl)
      (refine W.nxt ((y + 1, q)) (by first | omega | (dsimp only; omega)) ?_ ⟨rfl, trivial⟩ ⟨rfl, rfl, trivial⟩ ⟨rfl, rfl, rfl, rfl, rfl, trivial⟩ ⟨rfl, rfl, trivial⟩ ⟨(by (repeat' first | exact rfl | assumption | (with_reducible apply noPar_set) | ((with_reducible apply noPar_puto); exact rfl) | (with_reducible apply noPar_put) | (with_reducible apply noPar_putv) | (with_reducible apply noPar_kill) | ((with_reducible apply noPar_mix); exact rfl) | ((with_reducible apply noPar_mixT); exact rfl)); done), trivial⟩); (try dsimp only)
      exact ⟨by omega, by rw [hq]; exact rdL_row, hq9⟩
  · obtain rfl : y = H0 := by omega
    have hql : q = lvA s W0 y := hq
    have v : IsLev q (grid .i8 q) := isLev_grid fun k _ => by have := hq9 k; omega
    have hO := l06Ok_gives l v
    have hT := l06Text_gives l v (by omega) (fun k _ => hq9 k)
    rw [Int.toNat_natCast, Int.toNat_natCast] at hT
    by_cases hw : LevOk W0 y g q
    · rw [decide_eq_true hw] at hO
      by_cases ht : rowsT q W0 y = s
      · have gd : GoodL W0 y g s W0 y := by rw [GoodL, ← hql]; exact ⟨hw, ht⟩
        rw [readLR, if_pos gd, ← hql]
        repeat' first | ((with_reducible apply WR.c_s (f := 49) (fn := Code.f49)); exact rfl; exact rfl; exact rfl; (first | exact rfl); (focus ((repeat' first | exact args_nil | apply args_d | exact toD_ptr rfl rfl | exact all_nil | apply all_cons | exact rfl); done)); exact hO) | ((with_reducible apply WR.c_s (f := 229) (fn := Code.f229)); exact rfl; exact rfl; exact rfl; (first | exact rfl); (focus ((repeat' first | exact args_nil | apply args_d | exact toD_ptr rfl rfl | exact all_nil | apply all_cons | exact rfl); done)); exact hT) | ((with_reducible apply WR.mv); exact rfl; exact rfl) | ((with_reducible apply WR.st); exact rfl; exact rfl; exact rfl; exact storeAll (by first | exact List.length_replicate .. | exact grid_len | exact rfl) (by first | exact List.length_replicate .. | exact grid_len | exact rfl)) | ((with_reducible apply WR.ld); exact rfl; exact rfl; exact rfl; (first | exact lawn_h (by assumption) | exact loadC_all (IsLev.len (by assumption)))) | ((with_reducible apply WR.bu); exact rfl; exact rfl) | ((with_reducible apply WR.cv); exact rfl; exact rfl; (first | exact i64_in _ (by omega))) | ((with_reducible apply WR.un); exact rfl; exact rfl) | ((with_reducible apply WR.snq); exact rfl; exact rfl; exact rfl) | ((with_reducible apply WR.fa); exact rfl; exact rfl) | ((with_reducible apply WR.nil)) | (with_reducible refine andThen_n ?_) | (with_reducible refine andThen_x ?_) | (with_reducible refine andThen_r ?_) | (with_reducible refine inB_x ?_) | (with_reducible refine W.seq ?_) | (with_reducible refine W.region ?_) | (with_reducible refine W.skip ?_) | (with_reducible refine W.ret ?_) | (with_reducible refine W.exit ?_) | ((with_reducible apply W.condT); exact rfl) | ((with_reducible apply W.condF); exact rfl) | ((with_reducible apply Done.f); (intro hh hh2; exact (nomatch hh2)); (focus ((repeat' first | exact all_nil | apply all_cons | exact res_tmp rfl | exact res_cell rfl rfl (by first | exact List.length_replicate .. | exact grid_len | exact rfl) | exact rfl); done)); (focus ((repeat' first | exact all_nil | apply all_cons | exact retOf_s rfl | exact retOf_a rfl | exact rfl); done)); exact rfl; (focus ((repeat' first | exact outs_nil | apply outs_d | exact rfl); done))) | (intro hb; try (exfalso; omega)) | ((with_reducible apply WR.lss); exact rfl; exact rfl; exact rfl) | ((with_reducible apply WR.pk); exact rfl; exact rfl)
        all_goals first
          | (exfalso; exact absurd ht (by assumption))
          | rfl
      · have ng : ¬ GoodL W0 y g s W0 y := fun gd => ht (by rw [hql]; exact gd.2)
        repeat' first | ((with_reducible apply WR.c_s (f := 49) (fn := Code.f49)); exact rfl; exact rfl; exact rfl; (first | exact rfl); (focus ((repeat' first | exact args_nil | apply args_d | exact toD_ptr rfl rfl | exact all_nil | apply all_cons | exact rfl); done)); exact hO) | ((with_reducible apply WR.c_s (f := 229) (fn := Code.f229)); exact rfl; exact rfl; exact rfl; (first | exact rfl); (focus ((repeat' first | exact args_nil | apply args_d | exact toD_ptr rfl rfl | exact all_nil | apply all_cons | exact rfl); done)); exact hT) | ((with_reducible apply WR.mv); exact rfl; exact rfl) | ((with_reducible apply WR.st); exact rfl; exact rfl; exact rfl; exact storeAll (by first | exact List.length_replicate .. | exact grid_len | exact rfl) (by first | exact List.length_replicate .. | exact grid_len | exact rfl)) | ((with_reducible apply WR.ld); exact rfl; exact rfl; exact rfl; (first | exact lawn_h (by assumption) | exact loadC_all (IsLev.len (by assumption)))) | ((with_reducible apply WR.bu); exact rfl; exact rfl) | ((with_reducible apply WR.cv); exact rfl; exact rfl; (first | exact i64_in _ (by omega))) | ((with_reducible apply WR.un); exact rfl; exact rfl) | ((with_reducible apply WR.snq); exact rfl; exact rfl; exact rfl) | ((with_reducible apply WR.fa); exact rfl; exact rfl) | ((with_reducible apply WR.nil)) | (with_reducible refine andThen_n ?_) | (with_reducible refine andThen_x ?_) | (with_reducible refine andThen_r ?_) | (with_reducible refine inB_x ?_) | (with_reducible refine W.seq ?_) | (with_reducible refine W.region ?_) | (with_reducible refine W.skip ?_) | (with_reducible refine W.ret ?_) | (with_reducible refine W.exit ?_) | ((with_reducible apply W.condT); exact rfl) | ((with_reducible apply W.condF); exact rfl) | ((with_reducible apply Done.f); (intro hh hh2; exact (nomatch hh2)); (focus ((repeat' first | exact all_nil | apply all_cons | exact res_tmp rfl | exact res_cell rfl rfl (by first | exact List.length_replicate .. | exact grid_len | exact rfl) | exact rfl); done)); (focus ((repeat' first | exact all_nil | apply all_cons | exact retOf_s rfl | exact retOf_a rfl | exact rfl); done)); exact rfl; (focus ((repeat' first | exact outs_nil | apply outs_d | exact rfl); done))) | (intro hb; try (exfalso; omega)) | ((with_reducible apply WR.lss); exact rfl; exact rfl; exact rfl) | ((with_reducible apply WR.pk); exact rfl; exact rfl)
        all_goals first
          | (exfalso; exact ht (by assumption))
          | exact bad ng
    · rw [decide_eq_false hw] at hO
      have ng : ¬ GoodL W0 y g s W0 y := fun gd => hw (by rw [hql]; exact gd.1)
      repeat' first | ((with_reducible apply WR.c_s (f := 49) (fn := Code.f49)); exact rfl; exact rfl; exact rfl; (first | exact rfl); (focus ((repeat' first | exact args_nil | apply args_d | exact toD_ptr rfl rfl | exact all_nil | apply all_cons | exact rfl); done)); exact hO) | ((with_reducible apply WR.mv); exact rfl; exact rfl) | ((with_reducible apply WR.st); exact rfl; exact rfl; exact rfl; exact storeAll (by first | exact List.length_replicate .. | exact rfl) (by first | exact List.length_replicate .. | exact rfl)) | ((with_reducible apply WR.ld); exact rfl; exact rfl; exact rfl; (first | exact lawn_h (by assumption))) | ((with_reducible apply WR.bu); exact rfl; exact rfl) | ((with_reducible apply WR.cv); exact rfl; exact rfl; (first | exact i64_in _ (by omega))) | ((with_reducible apply WR.un); exact rfl; exact rfl) | ((with_reducible apply WR.off); exact rfl) | ((with_reducible apply WR.fa); exact rfl; exact rfl) | ((with_reducible apply WR.nil)) | (with_reducible refine andThen_n ?_) | (with_reducible refine andThen_x ?_) | (with_reducible refine andThen_r ?_) | (with_reducible refine inB_x ?_) | (with_reducible refine W.seq ?_) | (with_reducible refine W.region ?_) | (with_reducible refine W.ret ?_) | (with_reducible refine W.exit ?_) | ((with_reducible apply W.condT); exact rfl) | ((with_reducible apply W.condF); exact rfl) | ((with_reducible apply Done.f); (intro hh hh2; exact (nomatch hh2)); (focus ((repeat' first | exact all_nil | apply all_cons | exact res_tmp rfl | exact res_cell rfl rfl (by first | exact List.length_replicate .. | exact rfl) | exact rfl); done)); (focus ((repeat' first | exact all_nil | apply all_cons | exact retOf_s rfl | exact retOf_a rfl | exact rfl); done)); exact rfl; (focus ((repeat' first | exact outs_nil | apply outs_d | exact rfl); done))) | (intro hb; try (exfalso; omega)) | ((with_reducible apply WR.lss); exact rfl; exact rfl; exact rfl) | ((with_reducible apply WR.pk); exact rfl; exact rfl)
      all_goals exact bad ng
end Go.DM
