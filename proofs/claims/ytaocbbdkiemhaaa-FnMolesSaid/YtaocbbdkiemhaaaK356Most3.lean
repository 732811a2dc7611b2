/- The cell at which a mole is most often: the reference's side, the statement. -/
import Derived.Test.YtaocbbdkiemhaaaK356Those
set_option linter.unusedSimpArgs false
set_option linter.unusedVariables false
set_option maxHeartbeats 4000000
namespace Go.DM
set_option linter.unusedSectionVars false
variable [Tok]
open Go.IntWalk
variable {w h : Int} {g : Nat → Int} {cs : List S} {q : Nat → Int} {qs : List S}
theorem QF_b : ∀ (n : Nat) (L : List Cel), L.length = n → ∀ k, 0 ≤ QF L k ∧ QF L k ≤ n
  | 0, L, hl, k => by obtain rfl := List.eq_nil_of_length_eq_zero hl; exact ⟨Int.le_refl _, Int.le_refl _⟩
  | n + 1, L, hl, k => by
    have hne : L ≠ [] := fun e => by rw [e] at hl; cases hl
    have e := List.dropLast_concat_getLast hne
    have ih := QF_b n L.dropLast (by simp [hl])
    rw [← e, QF_snoc]
    unfold gset
    have h1 := ih k
    have h2 := ih (kC (L.getLast hne))
    split <;> omega
theorem most_grid {L A : List Cel} (hL : ∀ d ∈ L, In9 d) (hA : ∀ c ∈ A, In9 c) : mostF (fun c => QF L (kC c)) A = mostF (cntL L) A := mostF_congr fun c hc => QF_cnt _ L rfl hL c (hA c hc)
theorem mostS_gives (l : IsLawn w h g cs) (v : IsLev q qs) (a : Cel) (n : Int) (hx : -128 ≤ a.1 ∧ a.1 ≤ 127 ∧ -128 ≤ a.2 ∧ a.2 ≤ 127) : Gives G 198 [aa cs, aa qs, ac a.1 a.2, ai .i64 n] (mvRes w h g q qs a n) := by
  have hS := moleNightsS_gives l v a n hx
  by_cases hc : molesCode w h g q a n = 0
  · obtain ⟨hs, hn, ha, k0⟩ := moles_ok v hc
    have hL : LawnOk w h g := (belowCode_zero.1 hc).1.1
    rw [molesRes, if_pos hc] at hS
    by_cases h0 : n = 0
    · rw [mvRes, if_pos hc, if_pos h0]
      have hv := (k0.after (w := w) (h := h) (g := g) hs n.toNat).v
      generalize (Mole.mk q qs a a).path w h g n.toNat = pth at hS
      generalize (Mole.mk q qs a a).after w h g n.toNat = m at hS hv
      refine Gives.by rfl rfl (W.seq ?_)
      repeat' first | ((with_reducible apply WR.c_aos (f := 22) (fn := Code.f22)); exact rfl; exact rfl; exact rfl; (first | exact rfl); (focus ((repeat' first | exact args_nil | apply args_d | exact toD_d rfl | exact all_nil | apply all_cons | exact rfl); done)); exact hS; (first | exact rfl)) | ((with_reducible apply WR.mv); exact rfl; exact rfl) | ((with_reducible apply WR.mvt); exact rfl; exact rfl) | ((with_reducible apply WR.st); exact rfl; exact rfl; exact rfl; exact st2) | ((with_reducible apply WR.st); exact rfl; exact rfl; exact rfl; exact storeAll (by first | exact List.length_replicate .. | exact IsLev.len (by assumption) | exact IsLawn.len (by assumption) | exact rfl) (by first | exact List.length_replicate .. | exact IsLev.len (by assumption) | exact IsLawn.len (by assumption) | exact rfl)) | ((with_reducible apply WR.ld); exact rfl; exact rfl; exact rfl; (first | exact ld2 | exact loadC_all (IsLawn.len (by assumption)) | exact loadC_all (IsLev.len (by assumption)))) | ((with_reducible apply WR.al); exact rfl; (first | exact rfl)) | ((with_reducible apply WR.bx); exact rfl; exact rfl; exact (by first | exact List.length_replicate .. | exact IsLev.len (by assumption) | exact IsLawn.len (by assumption) | exact rfl); (first | exact rfl)) | ((with_reducible apply WR.bu); exact rfl; exact rfl) | ((with_reducible apply WR.ex); exact rfl; exact rfl) | ((with_reducible apply WR.nil)) | (with_reducible refine andThen_n ?_) | (with_reducible refine andThen_r ?_) | (with_reducible refine W.seq ?_) | (with_reducible refine W.region ?_) | (with_reducible refine W.ret ?_) | ((with_reducible apply W.condT); exact rfl) | ((with_reducible apply Done.f); (intro hh hh2; exact (nomatch hh2)); (focus ((repeat' first | exact all_nil | apply all_cons | exact res_tmp rfl | exact res_cell rfl rfl (by first | exact List.length_replicate .. | exact IsLev.len (by assumption) | exact IsLawn.len (by assumption) | exact rfl) | exact rfl); done)); (focus ((repeat' first | exact all_nil | apply all_cons | exact retOf_s rfl | exact retOf_a rfl | exact rfl); done)); exact rfl; (focus ((repeat' first | exact outs_nil | apply outs_d | exact rfl); done))) | (intro hb; try (exfalso; omega)) | ((with_reducible apply WR.eql); exact rfl; exact rfl; exact rfl) | ((with_reducible apply WR.neq); exact rfl; exact rfl; exact rfl) | ((with_reducible apply WR.pk); exact rfl; exact rfl)
      all_goals first
        | (exfalso; omega)
        | rfl
    · have hpl := (Mole.mk q qs a a).path_length (w := w) (h := h) (g := g) n.toNat
      have hp9 := path_in9 (w := w) (h := h) (g := g) hs k0 n.toNat
      have hz := hL.1; have hz2 := hL.2.1
      rw [mvRes, if_pos hc, if_neg h0]
      have hv := (k0.after (w := w) (h := h) (g := g) hs n.toNat).v
      generalize (Mole.mk q qs a a).path w h g n.toNat = pth at hS hpl hp9 ⊢
      generalize (Mole.mk q qs a a).after w h g n.toNat = m at hS hv
      have hall := l01All_gives l (by omega)
      have hal := allC_len (w := w) (h := h) (by omega)
      have hm9 := all_in9 (w := w) (h := h) hs
      have hmg := most_grid (L := pth.drop 1) (A := allC w h) (fun d hd => hp9 d (List.mem_of_mem_drop hd)) hm9
      generalize allC w h = A at hall hal hm9 hmg ⊢
      rw [← hmg]
      clear hmg
      refine Gives.by rfl rfl (W.seq ?_)
      repeat' first | ((with_reducible apply WR.c_aos (f := 22) (fn := Code.f22)); exact rfl; exact rfl; exact rfl; (first | exact rfl); (focus ((repeat' first | exact args_nil | apply args_d | exact toD_d rfl | exact rfl); done)); exact hS; (first | exact rfl)) | ((with_reducible apply WR.mv); exact rfl; exact rfl) | ((with_reducible apply WR.mvt); exact rfl; exact rfl) | ((with_reducible apply WR.st); exact rfl; exact rfl; exact rfl; exact storeAll (by first | exact List.length_replicate .. | exact IsLev.len (by assumption) | exact IsLawn.len (by assumption) | exact rfl) (by first | exact List.length_replicate .. | exact IsLev.len (by assumption) | exact IsLawn.len (by assumption) | exact rfl)) | ((with_reducible apply WR.ld); exact rfl; exact rfl; exact rfl; (first | exact ld2 | exact loadC_all (IsLawn.len (by assumption)) | exact loadC_all (IsLev.len (by assumption)))) | ((with_reducible apply WR.al); exact rfl; (first | exact rfl)) | ((with_reducible apply WR.bx); exact rfl; exact rfl; exact (by first | exact List.length_replicate .. | exact IsLev.len (by assumption) | exact IsLawn.len (by assumption) | exact rfl); (first | exact rfl)) | ((with_reducible apply WR.bu); exact rfl; exact rfl) | ((with_reducible apply WR.ex); exact rfl; exact rfl) | ((with_reducible apply WR.nil)) | (with_reducible refine andThen_n ?_) | (with_reducible refine W.seq ?_) | (with_reducible refine W.region ?_) | (with_reducible refine W.skip ?_) | (with_reducible refine W.block ?_) | ((with_reducible apply W.condF); exact rfl) | (intro hb; try (exfalso; omega)) | ((with_reducible apply WR.eql); exact rfl; exact rfl; exact rfl) | ((with_reducible apply WR.neq); exact rfl; exact rfl; exact rfl) | ((with_reducible apply WR.pk); exact rfl; exact rfl)
      all_goals try (exfalso; omega)
      (refine (?_ : W _ (Code.loop _) _ _))
      (refine W.loopM [4, 8, 12, 14] [4, 8, 2026] [16, 64] (fun zz : (Nat) × (Nat → Int) => match zz with | (i, q) => (pth.length - i : Nat)) (fun zz : (Nat) × (Nat → Int) => match zz with | (i, q) => (1 ≤ i ∧ i ≤ pth.length ∧ q = QF ((pth.drop 1).take (i - 1)) : Prop)) (fun zz : (Nat) × (Nat → Int) => match zz with | (i, q) => [(15, .a (.d (.s (.int .i64 (i : Nat)))))]) (fun zz : (Nat) × (Nat → Int) => match zz with | (i, q) => [(14, .flat false (grid .i64 q))]) (1, fun _ => 0) (⟨by omega, by omega, rfl⟩) ⟨rfl, trivial⟩ ⟨rfl, trivial⟩ ⟨(by (repeat' first | exact rfl | assumption | (with_reducible apply noPar_set) | ((with_reducible apply noPar_puto); exact rfl) | (with_reducible apply noPar_put) | (with_reducible apply noPar_putv) | (with_reducible apply noPar_putm) | (with_reducible apply noPar_kill) | ((with_reducible apply noPar_mix); exact rfl) | ((with_reducible apply noPar_mixT); exact rfl)); done), (by (repeat' first | exact rfl | assumption | (with_reducible apply noPar_set) | ((with_reducible apply noPar_puto); exact rfl) | (with_reducible apply noPar_put) | (with_reducible apply noPar_putv) | (with_reducible apply noPar_putm) | (with_reducible apply noPar_kill) | ((with_reducible apply noPar_mix); exact rfl) | ((with_reducible apply noPar_mixT); exact rfl)); done), trivial⟩ ?_)
      rintro ⟨i, q⟩ σ hP hN; dsimp only [setL, putL] at hP ⊢; obtain ⟨n16, hN⟩ := hN; obtain ⟨n64, hN⟩ := hN
      obtain ⟨hi1, hi, hq⟩ := hP
      by_cases hil : i < pth.length
      · have h9 := hp9 _ (gC_mem hil)
        have hqb := QF_b _ ((pth.drop 1).take (i - 1)) rfl (10 * (gC pth i).2.toNat + (gC pth i).1.toNat)
        rw [← hq, List.length_take] at hqb
        have hqb2 : 0 ≤ q (10 * (gC pth i).2.toNat + (gC pth i).1.toNat) ∧ q (10 * (gC pth i).2.toNat + (gC pth i).1.toNat) ≤ 100 := by omega
        repeat' first | ((with_reducible apply WR.mv); exact rfl; exact rfl) | ((with_reducible apply WH.mv); exact rfl; exact rfl; exact rfl) | ((with_reducible apply WH.ld); exact rfl; exact rfl; exact rfl; (first | exact ldCx (by first | omega) | exact ldCy (by first | omega) | exact ldG (by omega)); exact rfl) | ((with_reducible apply WH.ia); exact rfl; exact rfl; exact rfl; omega; exact rfl) | ((with_reducible apply WH.isn); exact rfl; exact rfl; exact rfl; omega; exact rfl) | ((with_reducible apply WH.fa); exact rfl; exact rfl; exact rfl) | ((with_reducible apply WR.nil)) | (with_reducible refine andThen_n ?_) | (with_reducible refine inB_n ?_) | (with_reducible refine W.seq ?_) | (with_reducible refine W.region ?_) | (with_reducible refine W.skip ?_) | (with_reducible refine W.block ?_) | ((with_reducible apply W.condT); exact rfl) | ((with_reducible apply WH.nil)) | (with_reducible refine W.draw ?_) | (intro hb; try (exfalso; omega)) | ((with_reducible apply WR.lss); exact rfl; exact rfl; exact rfl) | ((with_reducible apply WR.ad); exact rfl; exact rfl; exact rfl; (first | exact i64_in _ (by omega))) | ((with_reducible apply WR.le); exact rfl; exact rfl) | ((with_reducible apply WH.ad); exact rfl; exact rfl; exact rfl; (first | exact i64_in _ (by omega))) | ((with_reducible apply WH.st); exact rfl; exact rfl; exact rfl; exact stG (by omega); exact rfl; exact rfl)
        (refine W.nxt ((i + 1, gset q (10 * (gC pth i).2.toNat + (gC pth i).1.toNat) (q (10 * (gC pth i).2.toNat + (gC pth i).1.toNat) + 1))) (by first | omega | (dsimp only; omega)) ?_ ⟨rfl, trivial⟩ ⟨rfl, trivial⟩ ⟨rfl, rfl, rfl, rfl, trivial⟩ ⟨rfl, rfl, rfl, trivial⟩ ⟨(by (repeat' first | exact rfl | assumption | (with_reducible apply noPar_set) | ((with_reducible apply noPar_puto); exact rfl) | (with_reducible apply noPar_put) | (with_reducible apply noPar_putv) | (with_reducible apply noPar_putm) | (with_reducible apply noPar_kill) | ((with_reducible apply noPar_mix); exact rfl) | ((with_reducible apply noPar_mixT); exact rfl)); done), (by (repeat' first | exact rfl | assumption | (with_reducible apply noPar_set) | ((with_reducible apply noPar_puto); exact rfl) | (with_reducible apply noPar_put) | (with_reducible apply noPar_putv) | (with_reducible apply noPar_putm) | (with_reducible apply noPar_kill) | ((with_reducible apply noPar_mix); exact rfl) | ((with_reducible apply noPar_mixT); exact rfl)); done), trivial⟩); (try dsimp only)
        refine ⟨by omega, by omega, ?_⟩
        have e := drop_take (l := pth) (i := i - 1) (by omega)
        rw [show i - 1 + 1 = i by omega] at e
        rw [show i + 1 - 1 = i by omega, e, QF_snoc, ← hq]; rfl
      · obtain rfl : i = pth.length := by omega
        rw [List.take_of_length_le (by simp)] at hq
        rw [← hq]
        repeat' first | ((with_reducible apply WR.c_o (f := 60) (fn := Code.f60)); exact rfl; exact rfl; exact rfl; (first | exact rfl); (focus ((repeat' first | exact args_nil | apply args_d | exact toD_ptr rfl rfl | exact rfl); done)); exact hall; (first | exact rfl | assumption | (focus ((repeat' first | exact rfl | assumption | (with_reducible apply noPar_set) | ((with_reducible apply noPar_puto); exact rfl) | (with_reducible apply noPar_kill)); done)))) | ((with_reducible apply WR.mv); exact rfl; exact rfl) | ((with_reducible apply WR.st); exact rfl; exact rfl; exact rfl; exact st2) | ((with_reducible apply WR.al); exact rfl; (first | exact rfl | assumption | (focus ((repeat' first | exact rfl | assumption | (with_reducible apply noPar_set) | ((with_reducible apply noPar_puto); exact rfl) | (with_reducible apply noPar_kill)); done)))) | ((with_reducible apply WR.bu); exact rfl; exact rfl) | ((with_reducible apply WR.nil)) | (with_reducible refine andThen_n ?_) | (with_reducible refine andThen_x ?_) | (with_reducible refine inB_x ?_) | (with_reducible refine W.seq ?_) | (with_reducible refine W.region ?_) | (with_reducible refine W.exit ?_) | (with_reducible refine W.block ?_) | ((with_reducible apply W.condF); exact rfl) | (intro hb; try (exfalso; omega)) | ((with_reducible apply WR.lss); exact rfl; exact rfl; exact rfl) | ((with_reducible apply WR.le); exact rfl; exact rfl)
        (refine (?_ : W _ (Code.loop _) _ _))
        (refine W.loopM [8, 14, 16, 18] [8, 14, 64] [] (fun zz : (Nat) × (Int) × (Int) × (Int) => match zz with | (i, x, y, n) => (A.length - i : Nat)) (fun zz : (Nat) × (Int) × (Int) × (Int) => match zz with | (i, x, y, n) => (i ≤ A.length ∧ mostF (fun c => q (kC c)) (A.take i) = ((x, y), n) : Prop)) (fun zz : (Nat) × (Int) × (Int) × (Int) => match zz with | (i, x, y, n) => [(19, .a (.d (.s (.int .i64 (i : Nat))))), (17, .a (.d (.s (.int .i64 n))))]) (fun zz : (Nat) × (Int) × (Int) × (Int) => match zz with | (i, x, y, n) => [(16, .flat false ([.int .i8 x, .int .i8 y]))]) (0, 0, 0, 0) (⟨by omega, rfl⟩) ⟨rfl, rfl, trivial⟩ ⟨rfl, trivial⟩ trivial ?_)
        rintro ⟨i, x, y, n⟩ σ hP hN; dsimp only [setL, putL] at hP ⊢
        obtain ⟨hi, hf⟩ := hP
        by_cases hil : i < A.length
        · have hst : A.take (i + 1) = A.take i ++ [gC A i] := by rw [List.take_add_one, gC_get hil]; rfl
          have hsn := mostF_snoc (fun c => q (kC c)) (A.take i) (gC A i)
          rw [← hst, hf] at hsn
          have h9 := hm9 _ (gC_mem hil)
          repeat' first | ((with_reducible apply WR.mv); exact rfl; exact rfl) | ((with_reducible apply WH.mv); exact rfl; exact rfl; exact rfl) | ((with_reducible apply WR.st); exact rfl; exact rfl; exact rfl; exact st2) | ((with_reducible apply WH.ld); exact rfl; exact rfl; exact rfl; (first | exact ldC (by first | omega) | exact ldCx (by first | omega) | exact ldCy (by first | omega) | exact ldG (by omega)); exact rfl) | ((with_reducible apply WH.ia); exact rfl; exact rfl; exact rfl; omega; exact rfl) | ((with_reducible apply WR.ld); exact rfl; exact rfl; exact rfl; (first | exact ldC (by first | omega) | exact ldCx (by first | omega) | exact ldCy (by first | omega) | exact ldG (by omega))) | ((with_reducible apply WH.isn); exact rfl; exact rfl; exact rfl; omega; exact rfl) | ((with_reducible apply WH.fa); exact rfl; exact rfl; exact rfl) | ((with_reducible apply WR.nil)) | (with_reducible refine andThen_n ?_) | (with_reducible refine inB_n ?_) | (with_reducible refine W.seq ?_) | (with_reducible refine W.region ?_) | (with_reducible refine W.skip ?_) | (with_reducible refine W.block ?_) | ((with_reducible apply W.condT); exact rfl) | ((with_reducible apply W.condF); exact rfl) | ((with_reducible apply WH.nil)) | (with_reducible refine W.draw ?_) | (intro hb; try (exfalso; omega)) | ((with_reducible apply WR.lss); exact rfl; exact rfl; exact rfl) | ((with_reducible apply WR.ad); exact rfl; exact rfl; exact rfl; (first | exact i64_in _ (by omega))) | ((with_reducible apply WR.le); exact rfl; exact rfl) | ((with_reducible apply WR.gtr); exact rfl; exact rfl; exact rfl) | ((with_reducible apply WR.isn); exact rfl; exact rfl; exact rfl; omega)
          · (refine W.nxt ((i + 1, (gC A i).1, (gC A i).2, q (10 * (gC A i).2.toNat + (gC A i).1.toNat))) (by first | omega | (dsimp only; omega)) ?_ ⟨rfl, rfl, trivial⟩ ⟨rfl, trivial⟩ ⟨rfl, rfl, rfl, rfl, trivial⟩ ⟨rfl, rfl, rfl, trivial⟩ trivial); (try dsimp only)
            refine ⟨by omega, ?_⟩
            rw [hsn]
            exact if_pos (by assumption)
          · (refine W.nxt ((i + 1, x, y, n)) (by first | omega | (dsimp only; omega)) ?_ ⟨rfl, rfl, trivial⟩ ⟨rfl, trivial⟩ ⟨rfl, rfl, rfl, rfl, trivial⟩ ⟨rfl, rfl, rfl, trivial⟩ trivial); (try dsimp only)
            refine ⟨by omega, ?_⟩
            rw [hsn]
            exact if_neg (by assumption)
        · obtain rfl : i = A.length := by omega
          rw [List.take_of_length_le (by omega)] at hf
          rw [hf]
          repeat' first | ((with_reducible apply WR.mv); exact rfl; exact rfl) | ((with_reducible apply WR.st); exact rfl; exact rfl; exact rfl; exact st2) | ((with_reducible apply WR.ld); exact rfl; exact rfl; exact rfl; (first | exact ld2)) | ((with_reducible apply WR.nil)) | (with_reducible refine andThen_n ?_) | (with_reducible refine andThen_x ?_) | (with_reducible refine inB_x ?_) | (with_reducible refine W.seq ?_) | (with_reducible refine W.region ?_) | (with_reducible refine W.ret ?_) | (with_reducible refine W.exit ?_) | ((with_reducible apply W.condF); exact rfl) | ((with_reducible apply Done.f); (intro hh hh2; exact (nomatch hh2)); (focus ((repeat' first | exact all_nil | apply all_cons | exact res_tmp rfl | exact res_cell rfl rfl (by first | exact rfl) | exact rfl); done)); (focus ((repeat' first | exact all_nil | apply all_cons | exact retOf_s rfl | exact retOf_a rfl | exact rfl); done)); exact rfl; (focus ((repeat' first | exact outs_nil | apply outs_d | exact rfl); done))) | (intro hb; try (exfalso; omega)) | ((with_reducible apply WR.lss); exact rfl; exact rfl; exact rfl) | ((with_reducible apply WR.le); exact rfl; exact rfl)
          rfl
  · rw [molesRes, if_neg hc] at hS
    rw [mvRes, if_neg hc]
    refine Gives.by rfl rfl (W.seq ?_)
    repeat' first | ((with_reducible apply WR.c_aos (f := 22) (fn := Code.f22)); exact rfl; exact rfl; exact rfl; (first | exact rfl); (focus ((repeat' first | exact args_nil | apply args_d | exact toD_d rfl | exact all_nil | apply all_cons | exact rfl); done)); exact hS; (first | exact rfl)) | ((with_reducible apply WR.mv); exact rfl; exact rfl) | ((with_reducible apply WR.mvt); exact rfl; exact rfl) | ((with_reducible apply WR.st); exact rfl; exact rfl; exact rfl; exact st2) | ((with_reducible apply WR.st); exact rfl; exact rfl; exact rfl; exact storeAll (by first | exact List.length_replicate .. | exact IsLev.len (by assumption) | exact IsLawn.len (by assumption) | exact rfl) (by first | exact List.length_replicate .. | exact IsLev.len (by assumption) | exact IsLawn.len (by assumption) | exact rfl)) | ((with_reducible apply WR.ld); exact rfl; exact rfl; exact rfl; (first | exact ld2 | exact loadC_all (IsLawn.len (by assumption)) | exact loadC_all (IsLev.len (by assumption)))) | ((with_reducible apply WR.al); exact rfl; (first | exact rfl)) | ((with_reducible apply WR.bx); exact rfl; exact rfl; exact (by first | exact List.length_replicate .. | exact IsLev.len (by assumption) | exact IsLawn.len (by assumption) | exact rfl); (first | exact rfl)) | ((with_reducible apply WR.bu); exact rfl; exact rfl) | ((with_reducible apply WR.ex); exact rfl; exact rfl) | ((with_reducible apply WR.nil)) | (with_reducible refine andThen_n ?_) | (with_reducible refine andThen_r ?_) | (with_reducible refine W.seq ?_) | (with_reducible refine W.region ?_) | (with_reducible refine W.skip ?_) | (with_reducible refine W.ret ?_) | ((with_reducible apply W.condT); exact rfl) | ((with_reducible apply W.condF); exact rfl) | ((with_reducible apply Done.f); (intro hh hh2; exact (nomatch hh2)); (focus ((repeat' first | exact all_nil | apply all_cons | exact res_tmp rfl | exact res_cell rfl rfl (by first | exact List.length_replicate .. | exact IsLev.len (by assumption) | exact IsLawn.len (by assumption) | exact rfl) | exact rfl); done)); (focus ((repeat' first | exact all_nil | apply all_cons | exact retOf_s rfl | exact retOf_a rfl | exact rfl); done)); exact rfl; (focus ((repeat' first | exact outs_nil | apply outs_d | exact rfl); done))) | (intro hb; try (exfalso; omega)) | ((with_reducible apply WR.eql); exact rfl; exact rfl; exact rfl) | ((with_reducible apply WR.off); exact rfl) | ((with_reducible apply WR.neq); exact rfl; exact rfl; exact rfl) | ((with_reducible apply WR.pk); exact rfl; exact rfl)
    all_goals first
      | (exfalso; omega)
      | (exfalso; exact hc (by assumption))
      | rfl
end Go.DM
