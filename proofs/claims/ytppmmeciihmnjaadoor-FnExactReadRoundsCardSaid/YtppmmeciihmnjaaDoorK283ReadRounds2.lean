/- Rounds are read from their text: the walks, the statement. -/
import Derived.Test.YtppmmeciihmnjaaDoorK283Rows
import Derived.Test.YtppmmeciihmnjaaDoorK283MarkR
import Derived.Test.YtppmmeciihmnjaaDoorK283Laws
set_option linter.unusedSimpArgs false
set_option linter.unusedVariables false
set_option maxHeartbeats 4000000
namespace Go.DM
open Go.IntWalk
theorem numR_one (b : UInt8) : numR [b] = ⟨[.s (.int .i64 (if 48 ≤ (b.toNat : Int) ∧ (b.toNat : Int) ≤ 57 then (b.toNat : Int) - 48 else 0)), .s (.bool (decide (48 ≤ (b.toNat : Int) ∧ (b.toNat : Int) ≤ 57)))], []⟩ := by
  have hg : gB [b] 0 = (b.toNat : Int) := rfl
  have hv : numV [b] = (b.toNat : Int) - 48 := by simp [numV]
  by_cases h : 48 ≤ (b.toNat : Int) ∧ (b.toNat : Int) ≤ 57
  · have ho : NumOk [b] := ⟨⟨by simp, by simp, fun h => by simp at h⟩, fun i hi => by
      obtain rfl : i = 0 := by simpa using hi
      rw [hg]; exact h⟩
    rw [numR, if_pos ho, if_pos h, hv, decide_eq_true h]
  · have ho : ¬ NumOk [b] := fun ho => h (by have := ho.2 0 (by simp); rw [hg] at this; exact this)
    rw [numR, if_neg ho, if_neg h, decide_eq_false h]
theorem two_letters {w : List UInt8} (h : w.length = 2) : w = [w.getD 0 0, w.getD 1 0] := by
  match w, h with
  | [a, b], _ => rfl
open Classical in
noncomputable def readRR (bad : Ret) (s : List UInt8) : Res := if GoodR s then ⟨[.own (rdA s).length 2 (encO (rdA s)), .s (.int .i64 0)], []⟩ else ⟨[bad, .s (.int .i64 5)], []⟩
theorem goodR_nil : GoodR [] := ⟨⟨fun r hr => (by cases hr), Nat.zero_le _⟩, rfl⟩
theorem specRR0_gives : Gives G 296 [.d (.s (.str []))] (readRR (.own 0 2 (encO [])) []) := by
  have hr : readRR (.own 0 2 (encO [])) [] = ⟨[.own 0 2 (encO []), .s (.int .i64 0)], []⟩ := if_pos goodR_nil
  rw [hr]
  refine Gives.by rfl rfl (W.seq ?_)
  repeat' first | ((with_reducible apply WR.mv); exact rfl; exact rfl) | ((with_reducible apply WR.bsR0); exact rfl; (first | exact rfl)) | ((with_reducible apply WR.nil)) | (with_reducible refine andThen_n ?_) | (with_reducible refine andThen_r ?_) | (with_reducible refine W.seq ?_) | (with_reducible refine W.region ?_) | (with_reducible refine W.skip ?_) | (with_reducible refine W.ret ?_) | ((with_reducible apply W.condT); exact rfl) | ((with_reducible apply W.condF); exact rfl) | ((with_reducible apply Done.f); (intro hh hh2; exact (nomatch hh2)); (focus ((repeat' first | exact all_nil | apply all_cons | exact res_tmp rfl | exact rfl); done)); (focus ((repeat' first | exact all_nil | apply all_cons | exact retOf_s rfl | exact retOf_o rfl rfl (by first | exact encO_length _ | exact rfl) | exact rfl); done)); exact rfl; (focus ((repeat' first | exact outs_nil | apply outs_d | exact rfl); done))) | (intro hb; try (exfalso; omega)) | ((with_reducible apply WR.seq_); exact rfl; exact rfl; exact rfl)
  all_goals first | (exfalso; exact absurd rfl (by assumption)) | rfl
theorem specRR_gives (s : List UInt8) (hs : s.length ≤ 1048576) : Gives G 296 [.d (.s (.str s))] (readRR (.own 0 2 (encO [])) s) := by
  by_cases h0 : s = []
  · subst h0
    exact specRR0_gives
  have hne := pieces_ne 32 s
  have hle := pieces_le 32 s
  have hmem : ∀ w ∈ pieces 32 s, w.length ≤ 1048576 := fun w hw => Nat.le_trans (piece_len hw) hs
  generalize hls : pieces 32 s = ls at hne hle hmem
  have hsp : Gives G 236 [.d (.s (.str s)), .d (.s (.int .u8 32))] ⟨[.own ls.length 1 (encS ls)], []⟩ := by
    rw [← hls]; exact l01Split_gives s 32 (by omega)
  have bad : ¬ GoodR s → (⟨[.own 0 2 (encO []), .s (S.int IntKind.i64 5)], []⟩ : Res) = readRR (.own 0 2 (encO [])) s := fun h => by rw [readRR, if_neg h]
  have gw := fun i => goodR_word (i := i) h0 hls
  refine Gives.by rfl rfl (W.seq ?_)
  repeat' first | ((with_reducible apply WR.c_o (f := 236) (fn := Code.f236)); exact rfl; exact rfl; exact rfl; (first | exact rfl); (focus ((repeat' first | exact args_nil | apply args_d | exact toD_d rfl | exact all_nil | apply all_cons | exact rfl); done)); exact hsp; (first | exact rfl)) | ((with_reducible apply WR.mv); exact rfl; exact rfl) | ((with_reducible apply WR.bsR0); exact rfl; (first | exact rfl)) | ((with_reducible apply WR.nil)) | (with_reducible refine andThen_n ?_) | (with_reducible refine andThen_r ?_) | (with_reducible refine W.seq ?_) | (with_reducible refine W.region ?_) | (with_reducible refine W.skip ?_) | (with_reducible refine W.ret ?_) | (with_reducible refine W.block ?_) | ((with_reducible apply W.condT); exact rfl) | ((with_reducible apply W.condF); exact rfl) | ((with_reducible apply Done.f); (intro hh hh2; exact (nomatch hh2)); (focus ((repeat' first | exact all_nil | apply all_cons | exact res_tmp rfl | exact rfl); done)); (focus ((repeat' first | exact all_nil | apply all_cons | exact retOf_s rfl | exact retOf_o rfl rfl (by first | exact encO_length _ | exact rfl) | exact rfl); done)); exact rfl; (focus ((repeat' first | exact outs_nil | apply outs_d | exact rfl); done))) | (intro hb; try (exfalso; omega)) | ((with_reducible apply WR.seq_); exact rfl; exact rfl; exact rfl)
  all_goals try (exfalso; exact h0 (by assumption))
  (refine (?_ : W _ (Code.loop _) _ _))
  (refine W.loopM [5] [14] [43, 55, 66, 67, 71] (fun zz : (List Rnd) × (Nat) => match zz with | (out, i) => (ls.length - i : Nat)) (fun zz : (List Rnd) × (Nat) => match zz with | (out, i) => (i ≤ ls.length ∧ out = (ls.take i).map rdW ∧ out.length = i ∧ ∀ w ∈ ls.take i, WordOk w : Prop)) (fun zz : (List Rnd) × (Nat) => match zz with | (out, i) => [(4, .a (.sl 9 0 out.length 2)), (6, .a (.d (.s (.int .i64 (i : Nat)))))]) (fun zz : (List Rnd) × (Nat) => match zz with | (out, i) => [(9, .flat false (encO out))]) ([], 0) (⟨by omega, rfl, rfl, fun w hw => by simp at hw⟩) ⟨rfl, rfl, trivial⟩ ⟨rfl, trivial⟩ ⟨(by (repeat' first | exact rfl | assumption | (with_reducible apply noPar_set) | ((with_reducible apply noPar_puto); exact rfl) | (with_reducible apply noPar_put) | (with_reducible apply noPar_putv) | (with_reducible apply noPar_kill) | ((with_reducible apply noPar_mix); exact rfl) | ((with_reducible apply noPar_mixT); exact rfl)); done), (by (repeat' first | exact rfl | assumption | (with_reducible apply noPar_set) | ((with_reducible apply noPar_puto); exact rfl) | (with_reducible apply noPar_put) | (with_reducible apply noPar_putv) | (with_reducible apply noPar_kill) | ((with_reducible apply noPar_mix); exact rfl) | ((with_reducible apply noPar_mixT); exact rfl)); done), (by (repeat' first | exact rfl | assumption | (with_reducible apply noPar_set) | ((with_reducible apply noPar_puto); exact rfl) | (with_reducible apply noPar_put) | (with_reducible apply noPar_putv) | (with_reducible apply noPar_kill) | ((with_reducible apply noPar_mix); exact rfl) | ((with_reducible apply noPar_mixT); exact rfl)); done), (by (repeat' first | exact rfl | assumption | (with_reducible apply noPar_set) | ((with_reducible apply noPar_puto); exact rfl) | (with_reducible apply noPar_put) | (with_reducible apply noPar_putv) | (with_reducible apply noPar_kill) | ((with_reducible apply noPar_mix); exact rfl) | ((with_reducible apply noPar_mixT); exact rfl)); done), (by (repeat' first | exact rfl | assumption | (with_reducible apply noPar_set) | ((with_reducible apply noPar_puto); exact rfl) | (with_reducible apply noPar_put) | (with_reducible apply noPar_putv) | (with_reducible apply noPar_kill) | ((with_reducible apply noPar_mix); exact rfl) | ((with_reducible apply noPar_mixT); exact rfl)); done), trivial⟩ ?_)
  rintro ⟨out, i⟩ σ hP hN; dsimp only [setL, putL] at hP ⊢; obtain ⟨n43, hN⟩ := hN; obtain ⟨n55, hN⟩ := hN; obtain ⟨n66, hN⟩ := hN; obtain ⟨n67, hN⟩ := hN; obtain ⟨n71, hN⟩ := hN
  obtain ⟨hi, ho, hol, hw⟩ := hP
  by_cases hil : i < ls.length
  · have hm := hmem _ (gS_mem hil)
    by_cases h2 : (gS ls i).length = 2
    · have hch : GoodR s → gB (gS ls i) (Int.toNat 0) = 99 ∨ gB (gS ls i) (Int.toNat 0) = 104 := fun g => by
        obtain ⟨r, _, hr⟩ := gw i g hil
        have := head_ch r
        rw [← hr] at this; exact this
      have hdg : GoodR s → 48 ≤ gB (gS ls i) 1 ∧ gB (gS ls i) 1 ≤ 57 := fun g => by
        obtain ⟨r, h9, hr⟩ := gw i g hil
        have := oneT_digit h9
        rw [← hr] at this; exact this
      have e2 : ((gS ls i).drop 1).take ((gS ls i).length - 1) = [(gS ls i).getD 1 0] := by
        have := two_letters h2
        rw [this]; rfl
      have hN := l01Number_gives [(gS ls i).getD 1 0] (by simp)
      rw [numR_one] at hN
      have hst : ls.take (i + 1) = ls.take i ++ [gS ls i] := by rw [List.take_add_one, gS_get hil]; rfl
      have nxt : (gB (gS ls i) 0 = 99 ∨ gB (gS ls i) 0 = 104) → (48 ≤ gB (gS ls i) 1 ∧ gB (gS ls i) 1 ≤ 57) → ∀ w ∈ ls.take (i + 1), WordOk w := fun a b w hw' => by
        rw [hst, List.mem_append] at hw'
        rcases hw' with hw' | hw'
        · exact hw w hw'
        · rw [List.mem_singleton] at hw'; subst hw'; exact ⟨h2, a, b⟩
      by_cases hd : 48 ≤ (((gS ls i).getD 1 0).toNat : Int) ∧ (((gS ls i).getD 1 0).toNat : Int) ≤ 57
      · rw [if_pos hd, decide_eq_true hd, ← e2] at hN
        clear e2
        repeat' first | ((with_reducible apply WR.c_ss (f := 315) (fn := Code.f315)); exact rfl; exact rfl; exact rfl; (first | exact rfl); (focus ((repeat' first | exact args_nil | apply args_d | exact toD_d rfl | exact all_nil | apply all_cons | exact rfl); done)); exact hN) | ((with_reducible apply WR.mv); exact rfl; exact rfl) | ((with_reducible apply WR.mvt); exact rfl; exact rfl) | ((with_reducible apply WR.off); exact rfl) | ((with_reducible apply WR.bsR0); exact rfl; (first | exact rfl | assumption)) | ((with_reducible apply WR.bsR1); exact rfl; exact rfl; (first | exact rfl | assumption)) | ((with_reducible apply WR.isn); exact rfl; exact rfl; exact rfl; omega) | ((with_reducible apply WR.ld); exact rfl; exact rfl; exact rfl; (first | exact ldS (by first | omega))) | ((with_reducible apply WR.ist); exact rfl; exact rfl; exact rfl; (first | omega)) | ((with_reducible apply WR.neq); exact rfl; exact rfl; exact rfl) | ((with_reducible apply WR.nil)) | (with_reducible refine andThen_n ?_) | (with_reducible refine andThen_r ?_) | (with_reducible refine inB_n ?_) | (with_reducible refine inB_r ?_) | (with_reducible refine W.seq ?_) | (with_reducible refine W.region ?_) | (with_reducible refine W.skip ?_) | (with_reducible refine W.ret ?_) | (with_reducible refine W.block ?_) | ((with_reducible apply W.condT); exact rfl) | ((with_reducible apply W.condF); exact rfl) | ((with_reducible apply Done.f); (intro hh hh2; exact (nomatch hh2)); (focus ((repeat' first | exact all_nil | apply all_cons | exact res_tmp rfl | exact rfl); done)); (focus ((repeat' first | exact all_nil | apply all_cons | exact retOf_s rfl | exact retOf_o rfl rfl (by first | exact encO_length _ | assumption | exact rfl) | exact rfl); done)); exact rfl; (focus ((repeat' first | exact outs_nil | apply outs_d | exact rfl); done))) | (intro hb; try (exfalso; omega)) | ((with_reducible apply WR.eql); exact rfl; exact rfl; exact rfl) | ((with_reducible apply WR.un); exact rfl; exact rfl) | ((with_reducible apply WR.pk); exact rfl; exact rfl) | ((with_reducible apply WR.ex); exact rfl; exact rfl) | ((with_reducible apply WR.le); exact rfl; exact rfl) | ((with_reducible apply WR.sst); exact rfl; exact rfl; exact rfl; exact rfl; exact ⟨by omega, by omega⟩) | ((with_reducible apply WR.apR); exact rfl; exact rfl; exact rfl; exact rfl; omega) | ((with_reducible apply WR.bRn); exact rfl; exact rfl; exact rfl) | ((with_reducible apply WR.lss); exact rfl; exact rfl; exact rfl) | ((with_reducible apply WR.cv); exact rfl; exact rfl; (first | exact i64_in _ (by omega) | assumption | exact i8_in _ (by omega))) | ((with_reducible apply WR.ad); exact rfl; exact rfl; exact rfl; (first | exact i64_in _ (by omega) | assumption | exact i8_in _ (by omega)))
        all_goals first
          | (exact bad fun g => by have := hch g; omega)
          | skip
        all_goals try (exfalso; omega)
        · (refine W.nxt ((out ++ [((((gS ls i).getD 1 0).toNat : Int) - 48, true)], i + 1)) (by first | omega | (dsimp only; omega)) ?_ ⟨rfl, rfl, trivial⟩ ⟨rfl, trivial⟩ ⟨rfl, trivial⟩ ⟨rfl, trivial⟩ ⟨(by (repeat' first | exact rfl | assumption | (with_reducible apply noPar_set) | ((with_reducible apply noPar_puto); exact rfl) | (with_reducible apply noPar_put) | (with_reducible apply noPar_putv) | (with_reducible apply noPar_kill) | ((with_reducible apply noPar_mix); exact rfl) | ((with_reducible apply noPar_mixT); exact rfl)); done), (by (repeat' first | exact rfl | assumption | (with_reducible apply noPar_set) | ((with_reducible apply noPar_puto); exact rfl) | (with_reducible apply noPar_put) | (with_reducible apply noPar_putv) | (with_reducible apply noPar_kill) | ((with_reducible apply noPar_mix); exact rfl) | ((with_reducible apply noPar_mixT); exact rfl)); done), (by (repeat' first | exact rfl | assumption | (with_reducible apply noPar_set) | ((with_reducible apply noPar_puto); exact rfl) | (with_reducible apply noPar_put) | (with_reducible apply noPar_putv) | (with_reducible apply noPar_kill) | ((with_reducible apply noPar_mix); exact rfl) | ((with_reducible apply noPar_mixT); exact rfl)); done), (by (repeat' first | exact rfl | assumption | (with_reducible apply noPar_set) | ((with_reducible apply noPar_puto); exact rfl) | (with_reducible apply noPar_put) | (with_reducible apply noPar_putv) | (with_reducible apply noPar_kill) | ((with_reducible apply noPar_mix); exact rfl) | ((with_reducible apply noPar_mixT); exact rfl)); done), (by (repeat' first | exact rfl | assumption | (with_reducible apply noPar_set) | ((with_reducible apply noPar_puto); exact rfl) | (with_reducible apply noPar_put) | (with_reducible apply noPar_putv) | (with_reducible apply noPar_kill) | ((with_reducible apply noPar_mix); exact rfl) | ((with_reducible apply noPar_mixT); exact rfl)); done), trivial⟩); (try dsimp only)
          have h104 : gB (gS ls i) 0 = 104 := by assumption
          refine ⟨by omega, ?_, by simp [hol], nxt (.inr h104) hd⟩
          rw [hst, List.map_append, ho]
          simp only [List.map_cons, List.map_nil, rdW, h104, decide_true]; rfl
        · (refine W.nxt ((out ++ [((((gS ls i).getD 1 0).toNat : Int) - 48, false)], i + 1)) (by first | omega | (dsimp only; omega)) ?_ ⟨rfl, rfl, trivial⟩ ⟨rfl, trivial⟩ ⟨rfl, trivial⟩ ⟨rfl, trivial⟩ ⟨(by (repeat' first | exact rfl | assumption | (with_reducible apply noPar_set) | ((with_reducible apply noPar_puto); exact rfl) | (with_reducible apply noPar_put) | (with_reducible apply noPar_putv) | (with_reducible apply noPar_kill) | ((with_reducible apply noPar_mix); exact rfl) | ((with_reducible apply noPar_mixT); exact rfl)); done), (by (repeat' first | exact rfl | assumption | (with_reducible apply noPar_set) | ((with_reducible apply noPar_puto); exact rfl) | (with_reducible apply noPar_put) | (with_reducible apply noPar_putv) | (with_reducible apply noPar_kill) | ((with_reducible apply noPar_mix); exact rfl) | ((with_reducible apply noPar_mixT); exact rfl)); done), (by (repeat' first | exact rfl | assumption | (with_reducible apply noPar_set) | ((with_reducible apply noPar_puto); exact rfl) | (with_reducible apply noPar_put) | (with_reducible apply noPar_putv) | (with_reducible apply noPar_kill) | ((with_reducible apply noPar_mix); exact rfl) | ((with_reducible apply noPar_mixT); exact rfl)); done), (by (repeat' first | exact rfl | assumption | (with_reducible apply noPar_set) | ((with_reducible apply noPar_puto); exact rfl) | (with_reducible apply noPar_put) | (with_reducible apply noPar_putv) | (with_reducible apply noPar_kill) | ((with_reducible apply noPar_mix); exact rfl) | ((with_reducible apply noPar_mixT); exact rfl)); done), (by (repeat' first | exact rfl | assumption | (with_reducible apply noPar_set) | ((with_reducible apply noPar_puto); exact rfl) | (with_reducible apply noPar_put) | (with_reducible apply noPar_putv) | (with_reducible apply noPar_kill) | ((with_reducible apply noPar_mix); exact rfl) | ((with_reducible apply noPar_mixT); exact rfl)); done), trivial⟩); (try dsimp only)
          have h99 : gB (gS ls i) 0 = 99 := by assumption
          refine ⟨by omega, ?_, by simp [hol], nxt (.inl h99) hd⟩
          rw [hst, List.map_append, ho]
          simp only [List.map_cons, List.map_nil, rdW, h99]; rfl
      · rw [if_neg hd, decide_eq_false hd, ← e2] at hN
        clear e2
        repeat' first | ((with_reducible apply WR.c_ss (f := 315) (fn := Code.f315)); exact rfl; exact rfl; exact rfl; (first | exact rfl); (focus ((repeat' first | exact args_nil | apply args_d | exact toD_d rfl | exact all_nil | apply all_cons | exact rfl); done)); exact hN) | ((with_reducible apply WR.mv); exact rfl; exact rfl) | ((with_reducible apply WR.mvt); exact rfl; exact rfl) | ((with_reducible apply WR.off); exact rfl) | ((with_reducible apply WR.bsR0); exact rfl; (first | exact rfl | assumption)) | ((with_reducible apply WR.isn); exact rfl; exact rfl; exact rfl; omega) | ((with_reducible apply WR.ld); exact rfl; exact rfl; exact rfl; (first | exact ldS (by first | omega))) | ((with_reducible apply WR.ist); exact rfl; exact rfl; exact rfl; (first | omega)) | ((with_reducible apply WR.neq); exact rfl; exact rfl; exact rfl) | ((with_reducible apply WR.nil)) | (with_reducible refine andThen_n ?_) | (with_reducible refine andThen_r ?_) | (with_reducible refine inB_r ?_) | (with_reducible refine W.seq ?_) | (with_reducible refine W.region ?_) | (with_reducible refine W.skip ?_) | (with_reducible refine W.ret ?_) | (with_reducible refine W.block ?_) | ((with_reducible apply W.condT); exact rfl) | ((with_reducible apply W.condF); exact rfl) | ((with_reducible apply Done.f); (intro hh hh2; exact (nomatch hh2)); (focus ((repeat' first | exact all_nil | apply all_cons | exact res_tmp rfl | exact rfl); done)); (focus ((repeat' first | exact all_nil | apply all_cons | exact retOf_s rfl | exact retOf_o rfl rfl (by first | exact encO_length _ | assumption | exact rfl) | exact rfl); done)); exact rfl; (focus ((repeat' first | exact outs_nil | apply outs_d | exact rfl); done))) | (intro hb; try (exfalso; omega)) | ((with_reducible apply WR.un); exact rfl; exact rfl) | ((with_reducible apply WR.pk); exact rfl; exact rfl) | ((with_reducible apply WR.ex); exact rfl; exact rfl) | ((with_reducible apply WR.le); exact rfl; exact rfl) | ((with_reducible apply WR.sst); exact rfl; exact rfl; exact rfl; exact rfl; exact ⟨by omega, by omega⟩) | ((with_reducible apply WR.lss); exact rfl; exact rfl; exact rfl)
        all_goals first
          | (exact bad fun g => by have := hch g; omega)
          | (exact bad fun g => hd (hdg g))
    · repeat' first | ((with_reducible apply WR.mv); exact rfl; exact rfl) | ((with_reducible apply WR.off); exact rfl) | ((with_reducible apply WR.bsR0); exact rfl; (first | assumption)) | ((with_reducible apply WR.isn); exact rfl; exact rfl; exact rfl; omega) | ((with_reducible apply WR.ld); exact rfl; exact rfl; exact rfl; (first | exact ldS (by first | omega))) | ((with_reducible apply WR.neq); exact rfl; exact rfl; exact rfl) | ((with_reducible apply WR.nil)) | (with_reducible refine andThen_n ?_) | (with_reducible refine andThen_r ?_) | (with_reducible refine inB_r ?_) | (with_reducible refine W.seq ?_) | (with_reducible refine W.region ?_) | (with_reducible refine W.skip ?_) | (with_reducible refine W.ret ?_) | (with_reducible refine W.block ?_) | ((with_reducible apply W.condT); exact rfl) | ((with_reducible apply Done.f); (intro hh hh2; exact (nomatch hh2)); (focus ((repeat' first | exact all_nil | apply all_cons | exact res_tmp rfl); done)); (focus ((repeat' first | exact all_nil | apply all_cons | exact retOf_s rfl | exact retOf_o rfl rfl (by first | exact encO_length _ | assumption)); done)); exact rfl; (focus ((repeat' first | exact outs_nil | apply outs_d); done))) | (intro hb; try (exfalso; omega)) | ((with_reducible apply WR.pk); exact rfl; exact rfl) | ((with_reducible apply WR.le); exact rfl; exact rfl) | ((with_reducible apply WR.lss); exact rfl; exact rfl; exact rfl)
      all_goals first
        | (exfalso; omega)
        | (exact bad fun g => by obtain ⟨r, _, hr⟩ := gw i g hil; rw [hr] at h2; exact h2 (oneT_len r))
  · obtain rfl : i = ls.length := by omega
    rw [List.take_of_length_le (by omega)] at ho hw
    have hb9 : ∀ r ∈ out, -128 ≤ r.1 ∧ r.1 ≤ 127 := fun r hr => by
      rw [ho] at hr
      obtain ⟨w, hw1, rfl⟩ := List.mem_map.1 hr
      have := (oneT_rdW (hw w hw1)).2
      omega
    have hR := l07Rounds_gives out (by omega) hb9
    by_cases hO : RndOk out
    · rw [decide_eq_true hO] at hR
      rw [ho] at hO
      obtain ⟨g, hg⟩ := goodR_spec h0 hls hw hO
      rw [readRR, if_pos g, hg, ← ho]
      repeat' first | ((with_reducible apply WR.c_s (f := 231) (fn := Code.f231)); exact rfl; exact rfl; exact rfl; (first | exact rfl); (focus ((repeat' first | exact args_nil | apply args_d | exact toD_slX rfl rfl (by first | exact encO_length _ | exact rfl) | exact all_nil | apply all_cons | exact rfl); done)); exact hR) | ((with_reducible apply WR.mv); exact rfl; exact rfl) | ((with_reducible apply WR.nil)) | (with_reducible refine andThen_n ?_) | (with_reducible refine andThen_x ?_) | (with_reducible refine inB_x ?_) | (with_reducible refine W.seq ?_) | (with_reducible refine W.region ?_) | (with_reducible refine W.skip ?_) | (with_reducible refine W.ret ?_) | (with_reducible refine W.exit ?_) | ((with_reducible apply W.condF); exact rfl) | ((with_reducible apply Done.f); (intro hh hh2; exact (nomatch hh2)); (focus ((repeat' first | exact all_nil | apply all_cons | exact res_tmp rfl | exact rfl); done)); (focus ((repeat' first | exact all_nil | apply all_cons | exact retOf_s rfl | exact retOf_o rfl rfl (by first | exact encO_length _ | exact rfl) | exact rfl); done)); exact rfl; (focus ((repeat' first | exact outs_nil | apply outs_d | exact rfl); done))) | (intro hb; try (exfalso; omega)) | ((with_reducible apply WR.un); exact rfl; exact rfl) | ((with_reducible apply WR.le); exact rfl; exact rfl) | ((with_reducible apply WR.lss); exact rfl; exact rfl; exact rfl)
      all_goals rfl
    · rw [decide_eq_false hO] at hR
      have ng : ¬ GoodR s := fun g => hO (by
        have h1 := goodR_words h0 g
        rw [hls] at h1
        rw [ho, h1, List.map_map, map_id (f := rdW ∘ oneT) fun r hr => rdW_oneT (g.1.1 r hr)]
        exact g.1)
      repeat' first | ((with_reducible apply WR.c_s (f := 231) (fn := Code.f231)); exact rfl; exact rfl; exact rfl; (first | exact rfl); (focus ((repeat' first | exact args_nil | apply args_d | exact toD_slX rfl rfl (by first | exact encO_length _ | assumption | exact rfl) | exact all_nil | apply all_cons | exact rfl); done)); exact hR) | ((with_reducible apply WR.mv); exact rfl; exact rfl) | ((with_reducible apply WR.bsR0); exact rfl; (first | exact rfl | assumption)) | ((with_reducible apply WR.nil)) | (with_reducible refine andThen_n ?_) | (with_reducible refine andThen_x ?_) | (with_reducible refine andThen_r ?_) | (with_reducible refine inB_x ?_) | (with_reducible refine W.seq ?_) | (with_reducible refine W.region ?_) | (with_reducible refine W.ret ?_) | (with_reducible refine W.exit ?_) | ((with_reducible apply W.condT); exact rfl) | ((with_reducible apply W.condF); exact rfl) | ((with_reducible apply Done.f); (intro hh hh2; exact (nomatch hh2)); (focus ((repeat' first | exact all_nil | apply all_cons | exact res_tmp rfl | exact rfl); done)); (focus ((repeat' first | exact all_nil | apply all_cons | exact retOf_s rfl | exact retOf_o rfl rfl (by first | exact encO_length _ | assumption | exact rfl) | exact rfl); done)); exact rfl; (focus ((repeat' first | exact outs_nil | apply outs_d | exact rfl); done))) | (intro hb; try (exfalso; omega)) | ((with_reducible apply WR.un); exact rfl; exact rfl) | ((with_reducible apply WR.le); exact rfl; exact rfl) | ((with_reducible apply WR.lss); exact rfl; exact rfl; exact rfl)
      all_goals exact bad ng
end Go.DM
