/- Levels made even: the reference's walk, the statement. -/
import Derived.Test.YteghgkdakhelfaaK194Even5
set_option linter.unusedSimpArgs false
set_option linter.unusedVariables false
set_option maxHeartbeats 4000000
namespace Go.DM
open Go.IntWalk
variable {w h : Int} {g : Nat → Int} {cs : List S} {q : Nat → Int} {qs : List S}
theorem evenS_gives (l : IsLawn w h g cs) (v : IsLev q qs) : Gives G 202 [aa cs, aa qs] (evRes w h g q) := by
  have hmc := l06Ok_gives l v
  by_cases hL : LevOk w h g q
  · have hz := hL.1.1; have hz2 := hL.1.2.1
    rw [decide_eq_true hL] at hmc
    have hth := l01Cells_gives l 0 (by omega)
    have hal := allC_len (w := w) (h := h) (by omega)
    have hFl : (ofKind w h g 0).length ≤ 100 := Nat.le_trans (List.length_filter_le _ _) hal
    rw [evRes, if_pos hL]
    by_cases hF : ofKind w h g 0 = []
    · rw [if_pos hF]
      rw [hF] at hth
      refine Gives.by rfl rfl (W.seq ?_)
      repeat' first | ((with_reducible apply WR.c_s (f := 49) (fn := Code.f49)); exact rfl; exact rfl; exact rfl; (first | exact rfl); (focus ((repeat' first | exact args_nil | apply args_d | exact toD_d rfl | exact toD_ptr rfl rfl | exact all_nil | apply all_cons | exact rfl); done)); exact hmc) | ((with_reducible apply WR.c_o (f := 29) (fn := Code.f29)); exact rfl; exact rfl; exact rfl; (first | exact rfl); (focus ((repeat' first | exact args_nil | apply args_d | exact toD_d rfl | exact toD_ptr rfl rfl | exact all_nil | apply all_cons | exact rfl); done)); exact hth; (first | exact rfl)) | ((with_reducible apply WR.mv); exact rfl; exact rfl) | ((with_reducible apply WR.le); exact rfl; exact rfl) | ((with_reducible apply WR.st); exact rfl; exact rfl; exact rfl; exact storeAll (by first | exact List.length_replicate .. | exact IsLev.len (by assumption) | exact IsLawn.len (by assumption) | exact rfl) (by first | exact List.length_replicate .. | exact IsLev.len (by assumption) | exact IsLawn.len (by assumption) | exact rfl)) | ((with_reducible apply WR.bu); exact rfl; exact rfl) | ((with_reducible apply WR.nil)) | (with_reducible refine andThen_n ?_) | (with_reducible refine andThen_r ?_) | (with_reducible refine W.seq ?_) | (with_reducible refine W.region ?_) | (with_reducible refine W.skip ?_) | (with_reducible refine W.ret ?_) | ((with_reducible apply W.condT); exact rfl) | ((with_reducible apply W.condF); exact rfl) | ((with_reducible apply Done.f); (intro hh hh2; exact (nomatch hh2)); (focus ((repeat' first | exact all_nil | apply all_cons | exact res_tmp rfl | exact res_cell rfl rfl (by first | exact List.length_replicate .. | exact IsLev.len (by assumption) | exact IsLawn.len (by assumption) | exact rfl) | exact rfl); done)); (focus ((repeat' first | exact all_nil | apply all_cons | exact retOf_s rfl | exact retOf_a rfl | exact rfl); done)); exact rfl; (focus ((repeat' first | exact outs_nil | apply outs_d | exact rfl); done))) | (intro hb; try (exfalso; omega)) | ((with_reducible apply WR.bx); exact rfl; exact rfl; exact (by first | exact List.length_replicate .. | exact IsLev.len (by assumption) | exact IsLawn.len (by assumption) | exact rfl); (first | exact rfl)) | ((with_reducible apply WR.al); exact rfl; (first | exact rfl)) | ((with_reducible apply WR.eql); exact rfl; exact rfl; exact rfl) | ((with_reducible apply WR.un); exact rfl; exact rfl)
      all_goals first
        | (exfalso; exact absurd rfl (by assumption))
        | rfl
    · rw [if_neg hF]
      have hFp := List.length_pos_iff.2 hF
      have h9 : ∀ c ∈ ofKind w h g 0, InC c := (sortOk v (by omega)).i
      have hb9 : ∀ c ∈ allC w h, -9 ≤ lv q c ∧ lv q c ≤ 9 := fun c hc => by
        have := allC_mem hc
        exact (hL.2 (10 * c.2.toNat + c.1.toNat) (by omega)).1
      have hsm := sumS_gives v (fun k hk => (hL.2 k hk).1)
      rw [(sum_all hL).1] at hsm
      have hsF := (sum_all hL).2
      have hsb := sumL_b (f := lv q) (k := 9) (L := ofKind w h g 0) (fun c hc => hb9 c (List.mem_filter.1 hc).1)
      have ho : (ofKind w h g 0).Pairwise fun a b => kC a < kC b := (all_order (by omega)).sublist List.filter_sublist
      have hT : Srt (keyE q) (srt (keyE q) (ofKind w h g 0)) := srt_srt (sortOk v (by omega)).d
      have hTl : (srt (keyE q) (ofKind w h g 0)).length = (ofKind w h g 0).length := srt_len
      have hTm : ∀ c, c ∈ srt (keyE q) (ofKind w h g 0) ↔ c ∈ ofKind w h g 0 := fun c => srt_mem
      have hbF : ∀ c ∈ ofKind w h g 0, -9 ≤ lv q c ∧ lv q c ≤ 9 := fun c hc => hb9 c (List.mem_filter.1 hc).1
      rw [← hsF] at hsb
      have hlo := lowE_spec (S := sumL (lv q) (allC w h)) (n := ((ofKind w h g 0).length : Int)) (by omega) hsb.1 hsb.2
      obtain ⟨low, hlow⟩ : ∃ low, lowE (sumL (lv q) (allC w h)) ((ofKind w h g 0).length : Int) = low := ⟨_, rfl⟩
      have hlow' := hlow
      unfold lowE at hlow'
      rw [hlow] at hlo ⊢
      generalize sumL (lv q) (allC w h) = S at hsm hlo hlow' hsb ⊢
      clear hlow hsF hb9 hal
      generalize srt (keyE q) (ofKind w h g 0) = T at hT hTl hTm ⊢
      generalize ofKind w h g 0 = F at hth hFl hF hFp h9 hsb ho hTl hTm hbF hlo hlow' ⊢
      obtain ⟨over, hov⟩ : ∃ over : Nat, S - low * (F.length : Int) = over := ⟨(S - low * (F.length : Int)).toNat, by omega⟩
      rw [hov] at hlo ⊢
      rw [Int.toNat_natCast]
      obtain ⟨⟨ho1, ho2⟩, hl1, hl2⟩ := hlo
      have hkk : F.length = T.length := hTl.symm
      by_cases hneg : S.tmod (F.length : Int) < 0
      · skip
        rw [if_pos hneg] at hlow'
        have hpr : (S.tdiv ((F.length : Nat) : Int) - 1) * ((F.length : Nat) : Int) = S - (over : Nat) := by rw [hlow']; omega
        have hml : IntKind.i64.wrap ((S.tdiv ((F.length : Nat) : Int) - 1) * ((F.length : Nat) : Int)) = (S.tdiv ((F.length : Nat) : Int) - 1) * ((F.length : Nat) : Int) := i64_in _ (by omega)
        refine Gives.by rfl rfl (W.seq ?_)
        repeat' first | ((with_reducible apply WR.c_s (f := 49) (fn := Code.f49)); exact rfl; exact rfl; exact rfl; (first | exact rfl); (focus ((repeat' first | exact args_nil | apply args_d | exact toD_d rfl | exact toD_ptr rfl rfl | exact rfl); done)); exact hmc) | ((with_reducible apply WR.c_o (f := 29) (fn := Code.f29)); exact rfl; exact rfl; exact rfl; (first | exact rfl); (focus ((repeat' first | exact args_nil | apply args_d | exact toD_d rfl | exact toD_ptr rfl rfl | exact rfl); done)); exact hth; (first | exact rfl)) | ((with_reducible apply WR.c_s (f := 207) (fn := Code.f207)); exact rfl; exact rfl; exact rfl; (first | exact rfl); (focus ((repeat' first | exact args_nil | apply args_d | exact toD_d rfl | exact toD_ptr rfl rfl | exact rfl); done)); exact hsm) | ((with_reducible apply WR.tq); exact rfl; exact rfl; exact rfl; omega; omega) | ((with_reducible apply WR.tr); exact rfl; exact rfl; exact rfl; omega) | ((with_reducible apply WR.ml); exact rfl; exact rfl; exact rfl; exact hml) | ((with_reducible apply WR.mv); exact rfl; exact rfl) | ((with_reducible apply WR.lss); exact rfl; exact rfl; exact rfl) | ((with_reducible apply WR.le); exact rfl; exact rfl) | ((with_reducible apply WR.st); exact rfl; exact rfl; exact rfl; exact storeAll (by first | exact List.length_replicate .. | exact IsLev.len (by assumption) | exact IsLawn.len (by assumption) | exact rfl) (by first | exact List.length_replicate .. | exact IsLev.len (by assumption) | exact IsLawn.len (by assumption) | exact rfl)) | ((with_reducible apply WR.sb); exact rfl; exact rfl; exact rfl; (first | exact i64_in _ (by omega))) | ((with_reducible apply WR.bu); exact rfl; exact rfl) | ((with_reducible apply WR.nil)) | (with_reducible refine andThen_n ?_) | (with_reducible refine W.seq ?_) | (with_reducible refine W.region ?_) | (with_reducible refine W.skip ?_) | (with_reducible refine W.block ?_) | ((with_reducible apply W.condT); exact rfl) | ((with_reducible apply W.condF); exact rfl) | (intro hb; try (exfalso; omega)) | ((with_reducible apply WR.bx); exact rfl; exact rfl; exact (by first | exact List.length_replicate .. | exact IsLev.len (by assumption) | exact IsLawn.len (by assumption) | exact rfl); (first | exact rfl)) | ((with_reducible apply WR.al); exact rfl; (first | exact rfl)) | ((with_reducible apply WR.eql); exact rfl; exact rfl; exact rfl) | ((with_reducible apply WR.un); exact rfl; exact rfl)
        all_goals try (exfalso; omega)
        (refine (?_ : W _ (Code.loop _) _ _))
        (refine W.loopM [3, 4, 7, 10, 11, 12] [3, 4, 21] [] (fun zz : (Nat) × (Nat → Int) => match zz with | (i, o) => (F.length - i : Nat)) (fun zz : (Nat) × (Nat → Int) => match zz with | (i, o) => (i ≤ F.length ∧ (∀ j, j < i → o (kC (gC F j)) = low) ∧ (∀ k, (∀ j, j < i → kC (gC F j) ≠ k) → o k = 0) ∧ (∀ k, -10 ≤ o k ∧ o k ≤ 10) : Prop)) (fun zz : (Nat) × (Nat → Int) => match zz with | (i, o) => [(13, .a (.d (.s (.int .i64 (i : Nat)))))]) (fun zz : (Nat) × (Nat → Int) => match zz with | (i, o) => [(12, .flat false (grid .i8 o))]) (0, fun _ => 0) (⟨by omega, fun j hj => by omega, fun k _ => rfl, fun k => ⟨by show (-10 : Int) ≤ 0; decide, by show (0 : Int) ≤ 10; decide⟩⟩) ⟨rfl, trivial⟩ ⟨rfl, trivial⟩ trivial ?_)
        rintro ⟨i, o⟩ σ hP hN; dsimp only [setL, putL] at hP ⊢
        obtain ⟨hi, hO, hO0, hOb⟩ := hP
        by_cases hil : i < F.length
        · have h9i := h9 _ (gC_mem hil)
          repeat' first | ((with_reducible apply WR.mv); exact rfl; exact rfl) | ((with_reducible apply WH.mv); exact rfl; exact rfl; exact rfl) | ((with_reducible apply WH.ld); exact rfl; exact rfl; exact rfl; (first | exact ldCx (by first | omega) | exact ldCy (by first | omega)); exact rfl) | ((with_reducible apply WH.isn); exact rfl; exact rfl; exact rfl; omega; exact rfl) | ((with_reducible apply WH.ia); exact rfl; exact rfl; exact rfl; omega; exact rfl) | ((with_reducible apply WR.lss); exact rfl; exact rfl; exact rfl) | ((with_reducible apply WR.le); exact rfl; exact rfl) | ((with_reducible apply WH.fa); exact rfl; exact rfl; exact rfl) | ((with_reducible apply WR.ad); exact rfl; exact rfl; exact rfl; (first | exact i64_in _ (by omega) | exact i8_in _ (by omega))) | ((with_reducible apply WR.nil)) | (with_reducible refine andThen_n ?_) | (with_reducible refine inB_n ?_) | (with_reducible refine W.seq ?_) | (with_reducible refine W.region ?_) | (with_reducible refine W.skip ?_) | (with_reducible refine W.block ?_) | ((with_reducible apply W.condT); exact rfl) | ((with_reducible apply WH.nil)) | (with_reducible refine W.draw ?_) | (intro hb; try (exfalso; omega)) | ((with_reducible apply WH.st); exact rfl; exact rfl; exact rfl; exact stG (by omega); exact rfl; exact rfl) | ((with_reducible apply WH.cv); exact rfl; exact rfl; (first | exact i64_in _ (by omega) | exact i8_in _ (by omega)))
          (refine W.nxt ((i + 1, gset o (10 * (gC F i).2.toNat + (gC F i).1.toNat) ((S.tdiv ((F.length : Nat) : Int) - 1)))) (by first | omega | (dsimp only; omega)) ?_ ⟨rfl, trivial⟩ ⟨rfl, trivial⟩ ⟨rfl, rfl, rfl, rfl, rfl, rfl, trivial⟩ ⟨rfl, rfl, rfl, trivial⟩ trivial); (try dsimp only)
          refine ⟨by omega, fun j hj => ?_, fun k hk => ?_, fun k => ?_⟩
          · show (if kC (gC F j) = kC (gC F i) then _ else o (kC (gC F j))) = low
            by_cases ej : kC (gC F j) = kC (gC F i)
            · rw [if_pos ej]; exact hlow'
            · rw [if_neg ej]
              exact hO j (by by_cases e : j = i; · subst e; exact absurd rfl ej
                             · omega)
          · show (if k = kC (gC F i) then _ else o k) = 0
            rw [if_neg (fun ee => hk i (by omega) ee.symm)]
            exact hO0 k fun j hj => hk j (by omega)
          · show -10 ≤ (if k = kC (gC F i) then (S.tdiv ((F.length : Nat) : Int) - 1) else o k) ∧ (if k = kC (gC F i) then (S.tdiv ((F.length : Nat) : Int) - 1) else o k) ≤ 10
            split
            · omega
            · exact hOb k
        · obtain rfl : i = F.length := by omega
          have hA1 : ∀ c ∈ F, o (kC c) = ownE T low 0 c := fun c hc => by
            obtain ⟨j, hj, e⟩ := List.getElem_of_mem hc
            have e2 := gC_get hj
            rw [List.getElem?_eq_getElem hj] at e2
            simp only [Option.some.injEq] at e2
            rw [← e, e2, hO j hj]; simp [ownE]
          have hA2 : ∀ k, (∀ c ∈ F, kC c ≠ k) → o k = 0 := fun k hk => hO0 k fun j hj => hk _ (gC_mem hj)
          clear hO hO0
          repeat' first | ((with_reducible apply WR.mv); exact rfl; exact rfl) | ((with_reducible apply WR.lss); exact rfl; exact rfl; exact rfl) | ((with_reducible apply WR.le); exact rfl; exact rfl) | ((with_reducible apply WR.nil)) | (with_reducible refine andThen_n ?_) | (with_reducible refine andThen_x ?_) | (with_reducible refine inB_x ?_) | (with_reducible refine W.seq ?_) | (with_reducible refine W.region ?_) | (with_reducible refine W.exit ?_) | (with_reducible refine W.block ?_) | ((with_reducible apply W.condF); exact rfl) | (intro hb; try (exfalso; omega))
          (refine (?_ : W _ (Code.loop _) _ _))
          (refine W.loopM [3, 4, 7, 10, 12] [3, 4, 21] [] (fun zz : (Int) × (Nat) × (Nat → Int) => match zz with | (x, t, o) => (over - t : Nat)) (fun zz : (Int) × (Nat) × (Nat → Int) => match zz with | (x, t, o) => ((x = (over : Int) - t ∧ t ≤ over) ∧ (∀ c ∈ F, o (kC c) = ownE T low t c) ∧ (∀ k, (∀ c ∈ F, kC c ≠ k) → o k = 0) ∧ (∀ k, -10 ≤ o k ∧ o k ≤ 10) : Prop)) (fun zz : (Int) × (Nat) × (Nat → Int) => match zz with | (x, t, o) => [(11, .a (.d (.s (.int .i64 x))))]) (fun zz : (Int) × (Nat) × (Nat → Int) => match zz with | (x, t, o) => [(12, .flat false (grid .i8 o))]) (_, 0, o) (⟨⟨by omega, by omega⟩, hA1, hA2, hOb⟩) ⟨rfl, trivial⟩ ⟨rfl, trivial⟩ trivial ?_)
          rintro ⟨x, t, o⟩ σ hP hN; dsimp only [setL, putL] at hP ⊢
          clear hA1 hA2 hOb
          obtain ⟨⟨hx, hto⟩, hA1, hA2, hOb⟩ := hP
          by_cases htl : t < over
          · have vo : IsLev o (grid .i8 o) := isLev_grid fun k _ => by have := hOb k; omega
            repeat' first | ((with_reducible apply WR.mv); exact rfl; exact rfl) | ((with_reducible apply WR.nil)) | (with_reducible refine andThen_n ?_) | (with_reducible refine W.seq ?_) | (with_reducible refine W.region ?_) | (with_reducible refine W.skip ?_) | (with_reducible refine W.block ?_) | ((with_reducible apply W.condT); exact rfl) | (intro hb; try (exfalso; omega)) | ((with_reducible apply WR.gtr); exact rfl; exact rfl; exact rfl)
            (refine (?_ : W _ (Code.loop _) _ _))
            (refine W.loopM [3, 4, 7, 10, 11, 12] [3, 4, 12, 21] [] (fun zz : (Int) × (Nat) => match zz with | (b, i) => (F.length - i : Nat)) (fun zz : (Int) × (Nat) => match zz with | (b, i) => (i ≤ F.length ∧ Best q F T t i b : Prop)) (fun zz : (Int) × (Nat) => match zz with | (b, i) => [(14, .a (.d (.s (.int .i64 b)))), (15, .a (.d (.s (.int .i64 (i : Nat)))))]) (fun zz : (Int) × (Nat) => match zz with | (b, i) => []) (-1, 0) (⟨by omega, .inl ⟨rfl, fun j hj => by omega⟩⟩) ⟨rfl, rfl, trivial⟩ trivial trivial ?_)
            rintro ⟨b, i⟩ σ hP hN; dsimp only [setL, putL] at hP ⊢
            obtain ⟨hi, hB⟩ := hP
            by_cases hil : i < F.length
            · have hcF := gC_mem hil
              have h9i := h9 _ hcF
              have hoc : o (10 * (gC F i).2.toNat + (gC F i).1.toNat) = ownE T low t (gC F i) := hA1 _ hcF
              obtain ⟨b1, b2, b3⟩ := best_step ho h9 hil hB
              by_cases hm : gC F i ∈ T.take t
              · have hne : ¬ o (10 * (gC F i).2.toNat + (gC F i).1.toNat) = (S.tdiv ((F.length : Nat) : Int) - 1) := by rw [hoc, hlow']; exact fun hh => own_low.1 hh hm
                clear hoc
                repeat' first | ((with_reducible apply WH.c_s (f := 93) (fn := Code.f93)); exact rfl; exact rfl; exact rfl; (first | exact rfl); (focus ((repeat' first | exact args_nil | apply args_d | exact toD_d rfl | exact toD_ptr rfl rfl | exact rfl); done)); exact l06At_gives (by assumption) _ _ (by omega); exact rfl) | ((with_reducible apply WR.mv); exact rfl; exact rfl) | ((with_reducible apply WH.mv); exact rfl; exact rfl; exact rfl) | ((with_reducible apply WH.ld); exact rfl; exact rfl; exact rfl; (first | exact ldC (by first | omega)); exact rfl) | ((with_reducible apply WH.isn); exact rfl; exact rfl; exact rfl; omega; exact rfl) | ((with_reducible apply WH.off); exact rfl) | ((with_reducible apply WR.lss); exact rfl; exact rfl; exact rfl) | ((with_reducible apply WR.le); exact rfl; exact rfl) | ((with_reducible apply WR.ad); exact rfl; exact rfl; exact rfl; (first | exact i64_in _ (by omega))) | ((with_reducible apply WR.nil)) | (with_reducible refine andThen_n ?_) | (with_reducible refine inB_n ?_) | (with_reducible refine W.seq ?_) | (with_reducible refine W.region ?_) | (with_reducible refine W.skip ?_) | (with_reducible refine W.block ?_) | ((with_reducible apply W.condT); exact rfl) | ((with_reducible apply W.condF); exact rfl) | ((with_reducible apply WH.nil)) | (with_reducible refine W.draw ?_) | (intro hb; try (exfalso; omega)) | ((with_reducible apply WH.pk); exact rfl; exact rfl; exact rfl) | ((with_reducible apply WH.eql); exact rfl; exact rfl; exact rfl)
                all_goals try (exfalso; exact hne (by assumption))
                (refine W.nxt ((b, i + 1)) (by first | omega | (dsimp only; omega)) ?_ ⟨rfl, rfl, trivial⟩ trivial ⟨rfl, rfl, rfl, rfl, rfl, rfl, trivial⟩ ⟨rfl, rfl, rfl, rfl, trivial⟩ trivial); (try dsimp only)
                exact ⟨by omega, b1 hm⟩
              · have heq : o (10 * (gC F i).2.toNat + (gC F i).1.toNat) = (S.tdiv ((F.length : Nat) : Int) - 1) := by rw [hoc, hlow']; exact own_low.2 hm
                clear hoc
                by_cases hbn : b < 0
                · repeat' first | ((with_reducible apply WH.c_s (f := 93) (fn := Code.f93)); exact rfl; exact rfl; exact rfl; (first | exact rfl); (focus ((repeat' first | exact args_nil | apply args_d | exact toD_d rfl | exact toD_ptr rfl rfl | exact rfl); done)); exact l06At_gives (by assumption) _ _ (by omega); exact rfl) | ((with_reducible apply WR.mv); exact rfl; exact rfl) | ((with_reducible apply WH.mv); exact rfl; exact rfl; exact rfl) | ((with_reducible apply WH.ld); exact rfl; exact rfl; exact rfl; (first | exact ldC (by first | omega)); exact rfl) | ((with_reducible apply WH.isn); exact rfl; exact rfl; exact rfl; omega; exact rfl) | ((with_reducible apply WH.off); exact rfl) | ((with_reducible apply WR.lss); exact rfl; exact rfl; exact rfl) | ((with_reducible apply WR.le); exact rfl; exact rfl) | ((with_reducible apply WR.ad); exact rfl; exact rfl; exact rfl; (first | exact i64_in _ (by omega))) | ((with_reducible apply WR.nil)) | (with_reducible refine andThen_n ?_) | (with_reducible refine inB_n ?_) | (with_reducible refine W.seq ?_) | (with_reducible refine W.region ?_) | (with_reducible refine W.skip ?_) | (with_reducible refine W.block ?_) | ((with_reducible apply W.condT); exact rfl) | ((with_reducible apply WH.nil)) | (with_reducible refine W.draw ?_) | (intro hb; try (exfalso; omega)) | ((with_reducible apply WH.pk); exact rfl; exact rfl; exact rfl) | ((with_reducible apply WH.lss); exact rfl; exact rfl; exact rfl) | ((with_reducible apply WH.eql); exact rfl; exact rfl; exact rfl)
                  all_goals try (exfalso; first | omega | exact absurd heq (by assumption))
                  (refine W.nxt (((i : Int), i + 1)) (by first | omega | (dsimp only; omega)) ?_ ⟨rfl, rfl, trivial⟩ trivial ⟨rfl, rfl, rfl, rfl, rfl, rfl, trivial⟩ ⟨rfl, rfl, rfl, rfl, trivial⟩ trivial); (try dsimp only)
                  exact ⟨by omega, b2 hm hbn⟩
                · obtain ⟨b4, b5, b6⟩ := b3 hm (by omega)
                  have h9b := h9 _ (gC_mem (l := F) (k := b.toNat) (by omega))
                  repeat' first | ((with_reducible apply WH.c_s (f := 93) (fn := Code.f93)); exact rfl; exact rfl; exact rfl; (first | exact rfl); (focus ((repeat' first | exact args_nil | apply args_d | exact toD_d rfl | exact toD_ptr rfl rfl | exact rfl); done)); exact l06At_gives (by assumption) _ _ (by omega); exact rfl) | ((with_reducible apply WR.mv); exact rfl; exact rfl) | ((with_reducible apply WH.mv); exact rfl; exact rfl; exact rfl) | ((with_reducible apply WH.ld); exact rfl; exact rfl; exact rfl; (first | exact ldC (by first | omega)); exact rfl) | ((with_reducible apply WH.isn); exact rfl; exact rfl; exact rfl; omega; exact rfl) | ((with_reducible apply WH.is); exact rfl; exact rfl; exact rfl; omega; exact rfl) | ((with_reducible apply WR.lss); exact rfl; exact rfl; exact rfl) | ((with_reducible apply WR.le); exact rfl; exact rfl) | ((with_reducible apply WR.ad); exact rfl; exact rfl; exact rfl; (first | exact i64_in _ (by omega))) | ((with_reducible apply WR.nil)) | (with_reducible refine andThen_n ?_) | (with_reducible refine inB_n ?_) | (with_reducible refine W.seq ?_) | (with_reducible refine W.region ?_) | (with_reducible refine W.skip ?_) | (with_reducible refine W.block ?_) | ((with_reducible apply W.condT); exact rfl) | ((with_reducible apply W.condF); exact rfl) | ((with_reducible apply WH.nil)) | (with_reducible refine W.draw ?_) | (intro hb; try (exfalso; omega)) | ((with_reducible apply WH.pk); exact rfl; exact rfl; exact rfl) | ((with_reducible apply WH.lss); exact rfl; exact rfl; exact rfl) | ((with_reducible apply WH.gtr); exact rfl; exact rfl; exact rfl) | ((with_reducible apply WH.eql); exact rfl; exact rfl; exact rfl)
                  all_goals try (exfalso; first | omega | exact absurd heq (by assumption))
                  · (refine W.nxt (((i : Int), i + 1)) (by first | omega | (dsimp only; omega)) ?_ ⟨rfl, rfl, trivial⟩ trivial ⟨rfl, rfl, rfl, rfl, rfl, rfl, trivial⟩ ⟨rfl, rfl, rfl, rfl, trivial⟩ trivial); (try dsimp only)
                    exact ⟨by omega, b5 (by assumption)⟩
                  · (refine W.nxt ((b, i + 1)) (by first | omega | (dsimp only; omega)) ?_ ⟨rfl, rfl, trivial⟩ trivial ⟨rfl, rfl, rfl, rfl, rfl, rfl, trivial⟩ ⟨rfl, rfl, rfl, rfl, trivial⟩ trivial); (try dsimp only)
                    exact ⟨by omega, b6 (by assumption)⟩
            · obtain rfl : i = F.length := by omega
              obtain ⟨q1, q2, q3⟩ := best_is hT hTm (show t < T.length by omega) hB
              have h9b := h9 _ (gC_mem (l := F) (k := b.toNat) (by omega))
              have hob := hOb (10 * (gC F b.toNat).2.toNat + (gC F b.toNat).1.toNat)
              repeat' first | ((with_reducible apply WR.mv); exact rfl; exact rfl) | ((with_reducible apply WH.mv); exact rfl; exact rfl; exact rfl) | ((with_reducible apply WH.ld); exact rfl; exact rfl; exact rfl; (first | exact lev_c (by assumption) (by omega) | exact ldCx (by first | omega) | exact ldCy (by first | omega)); exact rfl) | ((with_reducible apply WH.is); exact rfl; exact rfl; exact rfl; omega; exact rfl) | ((with_reducible apply WH.ia); exact rfl; exact rfl; exact rfl; omega; exact rfl) | ((with_reducible apply WR.lss); exact rfl; exact rfl; exact rfl) | ((with_reducible apply WR.le); exact rfl; exact rfl) | ((with_reducible apply WH.fa); exact rfl; exact rfl; exact rfl) | ((with_reducible apply WR.sb); exact rfl; exact rfl; exact rfl; (first | exact i64_in _ (by omega) | exact i8_in _ (by omega))) | ((with_reducible apply WR.nil)) | (with_reducible refine andThen_n ?_) | (with_reducible refine andThen_x ?_) | (with_reducible refine inB_n ?_) | (with_reducible refine inB_x ?_) | (with_reducible refine W.seq ?_) | (with_reducible refine W.region ?_) | (with_reducible refine W.exit ?_) | ((with_reducible apply W.condF); exact rfl) | ((with_reducible apply WH.nil)) | (with_reducible refine W.draw ?_) | (intro hb; try (exfalso; omega)) | ((with_reducible apply WH.ad); exact rfl; exact rfl; exact rfl; (first | exact i64_in _ (by omega) | exact i8_in _ (by omega))) | ((with_reducible apply WH.st); exact rfl; exact rfl; exact rfl; exact stG (by omega); exact rfl; exact rfl)
              (refine W.nxt ((x - 1, t + 1, gset o (10 * (gC F b.toNat).2.toNat + (gC F b.toNat).1.toNat) (o (10 * (gC F b.toNat).2.toNat + (gC F b.toNat).1.toNat) + 1))) (by first | omega | (dsimp only; omega)) ?_ ⟨rfl, trivial⟩ ⟨rfl, trivial⟩ ⟨rfl, rfl, rfl, rfl, rfl, trivial⟩ ⟨rfl, rfl, rfl, trivial⟩ trivial); (try dsimp only)
              have hbF : gC F b.toNat ∈ F := gC_mem (by omega)
              have hown0 := own_at (low := low) (over := t) hT.dis (show t < T.length by omega)
              have hown1 := own_at (low := low) (over := t + 1) hT.dis (show t < T.length by omega)
              rw [if_neg (by omega)] at hown0
              rw [if_pos (by omega)] at hown1
              have hob2 : o (kC (gC F b.toNat)) = low := by rw [hA1 _ hbF, q3]; exact hown0
              have hst2 : T.take (t + 1) = T.take t ++ [gC T t] := by rw [List.take_add_one, gC_get (by omega)]; rfl
              refine ⟨⟨by omega, by omega⟩, fun c hc => ?_, fun k hk => ?_, fun k => ?_⟩
              · show (if kC c = kC (gC F b.toNat) then o (kC (gC F b.toNat)) + 1 else o (kC c)) = _
                by_cases e : kC c = kC (gC F b.toNat)
                · have ec := kC_inj (h9 c hc) h9b e
                  rw [if_pos e, hob2, ec, q3, hown1]
                · rw [if_neg e, hA1 c hc]
                  have hct : c ≠ gC T t := fun ee => e (by rw [ee, ← q3])
                  unfold ownE
                  rw [hst2]
                  simp only [List.mem_append, List.mem_singleton, hct, or_false]
              · show (if k = kC (gC F b.toNat) then _ else o k) = 0
                rw [if_neg (fun ee => hk _ hbF ee.symm)]
                exact hA2 k hk
              · show -10 ≤ (if k = kC (gC F b.toNat) then o (kC (gC F b.toNat)) + 1 else o k) ∧ (if k = kC (gC F b.toNat) then o (kC (gC F b.toNat)) + 1 else o k) ≤ 10
                split
                · omega
                · exact hOb k
          · obtain rfl : t = over := by omega
            have vo : IsLev o (grid .i8 o) := isLev_grid fun k _ => by have := hOb k; omega
            have hg := gridE_eq (F := F) (T := T) (low := low) (over := t) (o := o) h9 hA1 hA2
            repeat' first | ((with_reducible apply WR.mv); exact rfl; exact rfl) | ((with_reducible apply WR.nil)) | (with_reducible refine andThen_n ?_) | (with_reducible refine andThen_x ?_) | (with_reducible refine inB_x ?_) | (with_reducible refine W.seq ?_) | (with_reducible refine W.region ?_) | (with_reducible refine W.exit ?_) | (with_reducible refine W.block ?_) | ((with_reducible apply W.condF); exact rfl) | (intro hb; try (exfalso; omega)) | ((with_reducible apply WR.gtr); exact rfl; exact rfl; exact rfl)
            (refine (?_ : W _ (Code.loop _) _ _))
            (refine W.loopM [3, 4, 7, 12] [3, 4, 12, 21] [] (fun zz : (Nat) × (Int) => match zz with | (i, mv) => (F.length - i : Nat)) (fun zz : (Nat) × (Int) => match zz with | (i, mv) => (i ≤ F.length ∧ mv = sumL (fmE q T low t) (F.take i) ∧ 0 ≤ mv ∧ mv ≤ 30 * (i : Int) : Prop)) (fun zz : (Nat) × (Int) => match zz with | (i, mv) => [(17, .a (.d (.s (.int .i64 (i : Nat))))), (16, .a (.d (.s (.int .i64 mv))))]) (fun zz : (Nat) × (Int) => match zz with | (i, mv) => []) (0, 0) (⟨by omega, rfl, by omega, by omega⟩) ⟨rfl, rfl, trivial⟩ trivial trivial ?_)
            rintro ⟨i, mv⟩ σ hP hN; dsimp only [setL, putL] at hP ⊢
            obtain ⟨hi, hmv, hmb1, hmb2⟩ := hP
            by_cases hil : i < F.length
            · have hcF := gC_mem hil
              have h9i := h9 _ hcF
              have hbi : -9 ≤ q (10 * (gC F i).2.toNat + (gC F i).1.toNat) ∧ q (10 * (gC F i).2.toNat + (gC F i).1.toNat) ≤ 9 := hbF _ hcF
              have hob := hOb (10 * (gC F i).2.toNat + (gC F i).1.toNat)
              have hoc : o (10 * (gC F i).2.toNat + (gC F i).1.toNat) = ownE T low t (gC F i) := hA1 _ hcF
              have hst2 : F.take (i + 1) = F.take i ++ [gC F i] := by rw [List.take_add_one, gC_get hil]; rfl
              have hsn := sumL_snoc (fmE q T low t) (gC F i) (F.take i)
              have hfm : fmE q T low t (gC F i) = max (lv q (gC F i) - ownE T low t (gC F i)) 0 := rfl
              have hmx := l00Max_gives 0 (q (10 * (gC F i).2.toNat + (gC F i).1.toNat) - o (10 * (gC F i).2.toNat + (gC F i).1.toNat))
              rw [← hst2, ← hmv, hfm, ← hoc] at hsn
              clear hfm hoc
              repeat' first | ((with_reducible apply WH.c_s (f := 73) (fn := Code.f73)); exact rfl; exact rfl; exact rfl; (first | exact rfl); (focus ((repeat' first | exact args_nil | apply args_d | exact toD_d rfl | exact toD_ptr rfl rfl | exact rfl); done)); exact hmx; exact rfl) | ((with_reducible apply WH.c_s (f := 93) (fn := Code.f93)); exact rfl; exact rfl; exact rfl; (first | exact rfl); (focus ((repeat' first | exact args_nil | apply args_d | exact toD_d rfl | exact toD_ptr rfl rfl | exact rfl); done)); exact l06At_gives (by assumption) _ _ (by omega); exact rfl) | ((with_reducible apply WR.mv); exact rfl; exact rfl) | ((with_reducible apply WH.mv); exact rfl; exact rfl; exact rfl) | ((with_reducible apply WH.ld); exact rfl; exact rfl; exact rfl; (first | exact ldC (by first | omega)); exact rfl) | ((with_reducible apply WH.isn); exact rfl; exact rfl; exact rfl; omega; exact rfl) | ((with_reducible apply WR.lss); exact rfl; exact rfl; exact rfl) | ((with_reducible apply WR.le); exact rfl; exact rfl) | ((with_reducible apply WR.ad); exact rfl; exact rfl; exact rfl; (first | exact i64_in _ (by omega))) | ((with_reducible apply WR.nil)) | (with_reducible refine andThen_n ?_) | (with_reducible refine inB_n ?_) | (with_reducible refine W.seq ?_) | (with_reducible refine W.region ?_) | (with_reducible refine W.skip ?_) | (with_reducible refine W.block ?_) | ((with_reducible apply W.condT); exact rfl) | ((with_reducible apply WH.nil)) | (with_reducible refine W.draw ?_) | (intro hb; try (exfalso; omega)) | ((with_reducible apply WH.ad); exact rfl; exact rfl; exact rfl; (first | exact i64_in _ (by omega))) | ((with_reducible apply WH.sb); exact rfl; exact rfl; exact rfl; (first | exact i64_in _ (by omega)))
              (refine W.nxt ((i + 1, mv + max 0 (q (10 * (gC F i).2.toNat + (gC F i).1.toNat) - o (10 * (gC F i).2.toNat + (gC F i).1.toNat)))) (by first | omega | (dsimp only; omega)) ?_ ⟨rfl, rfl, trivial⟩ trivial ⟨rfl, rfl, rfl, rfl, trivial⟩ ⟨rfl, rfl, rfl, rfl, trivial⟩ trivial); (try dsimp only)
              refine ⟨by omega, ?_, by omega, by omega⟩
              rw [hsn, Int.max_comm]; rfl
            · obtain rfl : i = F.length := by omega
              rw [List.take_of_length_le (Nat.le_refl _)] at hmv
              rw [← hg, ← hmv]
              repeat' first | ((with_reducible apply WR.mv); exact rfl; exact rfl) | ((with_reducible apply WR.lss); exact rfl; exact rfl; exact rfl) | ((with_reducible apply WR.le); exact rfl; exact rfl) | ((with_reducible apply WR.st); exact rfl; exact rfl; exact rfl; exact storeAll (by first | exact List.length_replicate .. | exact grid_len) (by first | exact List.length_replicate .. | exact grid_len)) | ((with_reducible apply WR.nil)) | (with_reducible refine andThen_n ?_) | (with_reducible refine andThen_x ?_) | (with_reducible refine inB_x ?_) | (with_reducible refine W.seq ?_) | (with_reducible refine W.region ?_) | (with_reducible refine W.ret ?_) | (with_reducible refine W.exit ?_) | ((with_reducible apply W.condF); exact rfl) | ((with_reducible apply Done.f); (intro hh hh2; exact (nomatch hh2)); (focus ((repeat' first | exact all_nil | apply all_cons | exact res_tmp rfl | exact res_cell rfl rfl (by first | exact List.length_replicate .. | exact grid_len)); done)); (focus ((repeat' first | exact all_nil | apply all_cons | exact retOf_s rfl | exact retOf_a rfl); done)); exact rfl; (focus ((repeat' first | exact outs_nil | apply outs_d); done))) | (intro hb; try (exfalso; omega)) | ((with_reducible apply WR.ld); exact rfl; exact rfl; exact rfl; (first | exact loadC_all (IsLev.len (by assumption))))
              rfl
      · skip
        rw [if_neg hneg] at hlow'
        have hpr : S.tdiv ((F.length : Nat) : Int) * ((F.length : Nat) : Int) = S - (over : Nat) := by rw [hlow']; omega
        have hml : IntKind.i64.wrap (S.tdiv ((F.length : Nat) : Int) * ((F.length : Nat) : Int)) = S.tdiv ((F.length : Nat) : Int) * ((F.length : Nat) : Int) := i64_in _ (by omega)
        refine Gives.by rfl rfl (W.seq ?_)
        repeat' first | ((with_reducible apply WR.c_s (f := 49) (fn := Code.f49)); exact rfl; exact rfl; exact rfl; (first | exact rfl); (focus ((repeat' first | exact args_nil | apply args_d | exact toD_d rfl | exact toD_ptr rfl rfl | exact rfl); done)); exact hmc) | ((with_reducible apply WR.c_o (f := 29) (fn := Code.f29)); exact rfl; exact rfl; exact rfl; (first | exact rfl); (focus ((repeat' first | exact args_nil | apply args_d | exact toD_d rfl | exact toD_ptr rfl rfl | exact rfl); done)); exact hth; (first | exact rfl)) | ((with_reducible apply WR.c_s (f := 207) (fn := Code.f207)); exact rfl; exact rfl; exact rfl; (first | exact rfl); (focus ((repeat' first | exact args_nil | apply args_d | exact toD_d rfl | exact toD_ptr rfl rfl | exact rfl); done)); exact hsm) | ((with_reducible apply WR.tq); exact rfl; exact rfl; exact rfl; omega; omega) | ((with_reducible apply WR.tr); exact rfl; exact rfl; exact rfl; omega) | ((with_reducible apply WR.ml); exact rfl; exact rfl; exact rfl; exact hml) | ((with_reducible apply WR.mv); exact rfl; exact rfl) | ((with_reducible apply WR.lss); exact rfl; exact rfl; exact rfl) | ((with_reducible apply WR.le); exact rfl; exact rfl) | ((with_reducible apply WR.st); exact rfl; exact rfl; exact rfl; exact storeAll (by first | exact List.length_replicate .. | exact IsLev.len (by assumption) | exact IsLawn.len (by assumption) | exact rfl) (by first | exact List.length_replicate .. | exact IsLev.len (by assumption) | exact IsLawn.len (by assumption) | exact rfl)) | ((with_reducible apply WR.sb); exact rfl; exact rfl; exact rfl; (first | exact i64_in _ (by omega))) | ((with_reducible apply WR.bu); exact rfl; exact rfl) | ((with_reducible apply WR.nil)) | (with_reducible refine andThen_n ?_) | (with_reducible refine W.seq ?_) | (with_reducible refine W.region ?_) | (with_reducible refine W.skip ?_) | (with_reducible refine W.block ?_) | ((with_reducible apply W.condF); exact rfl) | (intro hb; try (exfalso; omega)) | ((with_reducible apply WR.bx); exact rfl; exact rfl; exact (by first | exact List.length_replicate .. | exact IsLev.len (by assumption) | exact IsLawn.len (by assumption) | exact rfl); (first | exact rfl)) | ((with_reducible apply WR.al); exact rfl; (first | exact rfl)) | ((with_reducible apply WR.eql); exact rfl; exact rfl; exact rfl) | ((with_reducible apply WR.un); exact rfl; exact rfl)
        all_goals try (exfalso; omega)
        (refine (?_ : W _ (Code.loop _) _ _))
        (refine W.loopM [3, 4, 7, 10, 11, 12] [3, 4, 21] [] (fun zz : (Nat) × (Nat → Int) => match zz with | (i, o) => (F.length - i : Nat)) (fun zz : (Nat) × (Nat → Int) => match zz with | (i, o) => (i ≤ F.length ∧ (∀ j, j < i → o (kC (gC F j)) = low) ∧ (∀ k, (∀ j, j < i → kC (gC F j) ≠ k) → o k = 0) ∧ (∀ k, -10 ≤ o k ∧ o k ≤ 10) : Prop)) (fun zz : (Nat) × (Nat → Int) => match zz with | (i, o) => [(13, .a (.d (.s (.int .i64 (i : Nat)))))]) (fun zz : (Nat) × (Nat → Int) => match zz with | (i, o) => [(12, .flat false (grid .i8 o))]) (0, fun _ => 0) (⟨by omega, fun j hj => by omega, fun k _ => rfl, fun k => ⟨by show (-10 : Int) ≤ 0; decide, by show (0 : Int) ≤ 10; decide⟩⟩) ⟨rfl, trivial⟩ ⟨rfl, trivial⟩ trivial ?_)
        rintro ⟨i, o⟩ σ hP hN; dsimp only [setL, putL] at hP ⊢
        obtain ⟨hi, hO, hO0, hOb⟩ := hP
        by_cases hil : i < F.length
        · have h9i := h9 _ (gC_mem hil)
          repeat' first | ((with_reducible apply WR.mv); exact rfl; exact rfl) | ((with_reducible apply WH.mv); exact rfl; exact rfl; exact rfl) | ((with_reducible apply WH.ld); exact rfl; exact rfl; exact rfl; (first | exact ldCx (by first | omega) | exact ldCy (by first | omega)); exact rfl) | ((with_reducible apply WH.isn); exact rfl; exact rfl; exact rfl; omega; exact rfl) | ((with_reducible apply WH.ia); exact rfl; exact rfl; exact rfl; omega; exact rfl) | ((with_reducible apply WR.lss); exact rfl; exact rfl; exact rfl) | ((with_reducible apply WR.le); exact rfl; exact rfl) | ((with_reducible apply WH.fa); exact rfl; exact rfl; exact rfl) | ((with_reducible apply WR.ad); exact rfl; exact rfl; exact rfl; (first | exact i64_in _ (by omega) | exact i8_in _ (by omega))) | ((with_reducible apply WR.nil)) | (with_reducible refine andThen_n ?_) | (with_reducible refine inB_n ?_) | (with_reducible refine W.seq ?_) | (with_reducible refine W.region ?_) | (with_reducible refine W.skip ?_) | (with_reducible refine W.block ?_) | ((with_reducible apply W.condT); exact rfl) | ((with_reducible apply WH.nil)) | (with_reducible refine W.draw ?_) | (intro hb; try (exfalso; omega)) | ((with_reducible apply WH.st); exact rfl; exact rfl; exact rfl; exact stG (by omega); exact rfl; exact rfl) | ((with_reducible apply WH.cv); exact rfl; exact rfl; (first | exact i64_in _ (by omega) | exact i8_in _ (by omega)))
          (refine W.nxt ((i + 1, gset o (10 * (gC F i).2.toNat + (gC F i).1.toNat) (S.tdiv ((F.length : Nat) : Int)))) (by first | omega | (dsimp only; omega)) ?_ ⟨rfl, trivial⟩ ⟨rfl, trivial⟩ ⟨rfl, rfl, rfl, rfl, rfl, rfl, trivial⟩ ⟨rfl, rfl, rfl, trivial⟩ trivial); (try dsimp only)
          refine ⟨by omega, fun j hj => ?_, fun k hk => ?_, fun k => ?_⟩
          · show (if kC (gC F j) = kC (gC F i) then _ else o (kC (gC F j))) = low
            by_cases ej : kC (gC F j) = kC (gC F i)
            · rw [if_pos ej]; exact hlow'
            · rw [if_neg ej]
              exact hO j (by by_cases e : j = i; · subst e; exact absurd rfl ej
                             · omega)
          · show (if k = kC (gC F i) then _ else o k) = 0
            rw [if_neg (fun ee => hk i (by omega) ee.symm)]
            exact hO0 k fun j hj => hk j (by omega)
          · show -10 ≤ (if k = kC (gC F i) then S.tdiv ((F.length : Nat) : Int) else o k) ∧ (if k = kC (gC F i) then S.tdiv ((F.length : Nat) : Int) else o k) ≤ 10
            split
            · omega
            · exact hOb k
        · obtain rfl : i = F.length := by omega
          have hA1 : ∀ c ∈ F, o (kC c) = ownE T low 0 c := fun c hc => by
            obtain ⟨j, hj, e⟩ := List.getElem_of_mem hc
            have e2 := gC_get hj
            rw [List.getElem?_eq_getElem hj] at e2
            simp only [Option.some.injEq] at e2
            rw [← e, e2, hO j hj]; simp [ownE]
          have hA2 : ∀ k, (∀ c ∈ F, kC c ≠ k) → o k = 0 := fun k hk => hO0 k fun j hj => hk _ (gC_mem hj)
          clear hO hO0
          repeat' first | ((with_reducible apply WR.mv); exact rfl; exact rfl) | ((with_reducible apply WR.lss); exact rfl; exact rfl; exact rfl) | ((with_reducible apply WR.le); exact rfl; exact rfl) | ((with_reducible apply WR.nil)) | (with_reducible refine andThen_n ?_) | (with_reducible refine andThen_x ?_) | (with_reducible refine inB_x ?_) | (with_reducible refine W.seq ?_) | (with_reducible refine W.region ?_) | (with_reducible refine W.exit ?_) | (with_reducible refine W.block ?_) | ((with_reducible apply W.condF); exact rfl) | (intro hb; try (exfalso; omega))
          (refine (?_ : W _ (Code.loop _) _ _))
          (refine W.loopM [3, 4, 7, 10, 12] [3, 4, 21] [] (fun zz : (Int) × (Nat) × (Nat → Int) => match zz with | (x, t, o) => (over - t : Nat)) (fun zz : (Int) × (Nat) × (Nat → Int) => match zz with | (x, t, o) => ((x = (over : Int) - t ∧ t ≤ over) ∧ (∀ c ∈ F, o (kC c) = ownE T low t c) ∧ (∀ k, (∀ c ∈ F, kC c ≠ k) → o k = 0) ∧ (∀ k, -10 ≤ o k ∧ o k ≤ 10) : Prop)) (fun zz : (Int) × (Nat) × (Nat → Int) => match zz with | (x, t, o) => [(11, .a (.d (.s (.int .i64 x))))]) (fun zz : (Int) × (Nat) × (Nat → Int) => match zz with | (x, t, o) => [(12, .flat false (grid .i8 o))]) (_, 0, o) (⟨⟨by omega, by omega⟩, hA1, hA2, hOb⟩) ⟨rfl, trivial⟩ ⟨rfl, trivial⟩ trivial ?_)
          rintro ⟨x, t, o⟩ σ hP hN; dsimp only [setL, putL] at hP ⊢
          clear hA1 hA2 hOb
          obtain ⟨⟨hx, hto⟩, hA1, hA2, hOb⟩ := hP
          by_cases htl : t < over
          · have vo : IsLev o (grid .i8 o) := isLev_grid fun k _ => by have := hOb k; omega
            repeat' first | ((with_reducible apply WR.mv); exact rfl; exact rfl) | ((with_reducible apply WR.nil)) | (with_reducible refine andThen_n ?_) | (with_reducible refine W.seq ?_) | (with_reducible refine W.region ?_) | (with_reducible refine W.skip ?_) | (with_reducible refine W.block ?_) | ((with_reducible apply W.condT); exact rfl) | (intro hb; try (exfalso; omega)) | ((with_reducible apply WR.gtr); exact rfl; exact rfl; exact rfl)
            (refine (?_ : W _ (Code.loop _) _ _))
            (refine W.loopM [3, 4, 7, 10, 11, 12] [3, 4, 12, 21] [] (fun zz : (Int) × (Nat) => match zz with | (b, i) => (F.length - i : Nat)) (fun zz : (Int) × (Nat) => match zz with | (b, i) => (i ≤ F.length ∧ Best q F T t i b : Prop)) (fun zz : (Int) × (Nat) => match zz with | (b, i) => [(14, .a (.d (.s (.int .i64 b)))), (15, .a (.d (.s (.int .i64 (i : Nat)))))]) (fun zz : (Int) × (Nat) => match zz with | (b, i) => []) (-1, 0) (⟨by omega, .inl ⟨rfl, fun j hj => by omega⟩⟩) ⟨rfl, rfl, trivial⟩ trivial trivial ?_)
            rintro ⟨b, i⟩ σ hP hN; dsimp only [setL, putL] at hP ⊢
            obtain ⟨hi, hB⟩ := hP
            by_cases hil : i < F.length
            · have hcF := gC_mem hil
              have h9i := h9 _ hcF
              have hoc : o (10 * (gC F i).2.toNat + (gC F i).1.toNat) = ownE T low t (gC F i) := hA1 _ hcF
              obtain ⟨b1, b2, b3⟩ := best_step ho h9 hil hB
              by_cases hm : gC F i ∈ T.take t
              · have hne : ¬ o (10 * (gC F i).2.toNat + (gC F i).1.toNat) = S.tdiv ((F.length : Nat) : Int) := by rw [hoc, hlow']; exact fun hh => own_low.1 hh hm
                clear hoc
                repeat' first | ((with_reducible apply WH.c_s (f := 93) (fn := Code.f93)); exact rfl; exact rfl; exact rfl; (first | exact rfl); (focus ((repeat' first | exact args_nil | apply args_d | exact toD_d rfl | exact toD_ptr rfl rfl | exact rfl); done)); exact l06At_gives (by assumption) _ _ (by omega); exact rfl) | ((with_reducible apply WR.mv); exact rfl; exact rfl) | ((with_reducible apply WH.mv); exact rfl; exact rfl; exact rfl) | ((with_reducible apply WH.ld); exact rfl; exact rfl; exact rfl; (first | exact ldC (by first | omega)); exact rfl) | ((with_reducible apply WH.isn); exact rfl; exact rfl; exact rfl; omega; exact rfl) | ((with_reducible apply WH.off); exact rfl) | ((with_reducible apply WR.lss); exact rfl; exact rfl; exact rfl) | ((with_reducible apply WR.le); exact rfl; exact rfl) | ((with_reducible apply WR.ad); exact rfl; exact rfl; exact rfl; (first | exact i64_in _ (by omega))) | ((with_reducible apply WR.nil)) | (with_reducible refine andThen_n ?_) | (with_reducible refine inB_n ?_) | (with_reducible refine W.seq ?_) | (with_reducible refine W.region ?_) | (with_reducible refine W.skip ?_) | (with_reducible refine W.block ?_) | ((with_reducible apply W.condT); exact rfl) | ((with_reducible apply W.condF); exact rfl) | ((with_reducible apply WH.nil)) | (with_reducible refine W.draw ?_) | (intro hb; try (exfalso; omega)) | ((with_reducible apply WH.pk); exact rfl; exact rfl; exact rfl) | ((with_reducible apply WH.eql); exact rfl; exact rfl; exact rfl)
                all_goals try (exfalso; exact hne (by assumption))
                (refine W.nxt ((b, i + 1)) (by first | omega | (dsimp only; omega)) ?_ ⟨rfl, rfl, trivial⟩ trivial ⟨rfl, rfl, rfl, rfl, rfl, rfl, trivial⟩ ⟨rfl, rfl, rfl, rfl, trivial⟩ trivial); (try dsimp only)
                exact ⟨by omega, b1 hm⟩
              · have heq : o (10 * (gC F i).2.toNat + (gC F i).1.toNat) = S.tdiv ((F.length : Nat) : Int) := by rw [hoc, hlow']; exact own_low.2 hm
                clear hoc
                by_cases hbn : b < 0
                · repeat' first | ((with_reducible apply WH.c_s (f := 93) (fn := Code.f93)); exact rfl; exact rfl; exact rfl; (first | exact rfl); (focus ((repeat' first | exact args_nil | apply args_d | exact toD_d rfl | exact toD_ptr rfl rfl | exact rfl); done)); exact l06At_gives (by assumption) _ _ (by omega); exact rfl) | ((with_reducible apply WR.mv); exact rfl; exact rfl) | ((with_reducible apply WH.mv); exact rfl; exact rfl; exact rfl) | ((with_reducible apply WH.ld); exact rfl; exact rfl; exact rfl; (first | exact ldC (by first | omega)); exact rfl) | ((with_reducible apply WH.isn); exact rfl; exact rfl; exact rfl; omega; exact rfl) | ((with_reducible apply WH.off); exact rfl) | ((with_reducible apply WR.lss); exact rfl; exact rfl; exact rfl) | ((with_reducible apply WR.le); exact rfl; exact rfl) | ((with_reducible apply WR.ad); exact rfl; exact rfl; exact rfl; (first | exact i64_in _ (by omega))) | ((with_reducible apply WR.nil)) | (with_reducible refine andThen_n ?_) | (with_reducible refine inB_n ?_) | (with_reducible refine W.seq ?_) | (with_reducible refine W.region ?_) | (with_reducible refine W.skip ?_) | (with_reducible refine W.block ?_) | ((with_reducible apply W.condT); exact rfl) | ((with_reducible apply WH.nil)) | (with_reducible refine W.draw ?_) | (intro hb; try (exfalso; omega)) | ((with_reducible apply WH.pk); exact rfl; exact rfl; exact rfl) | ((with_reducible apply WH.lss); exact rfl; exact rfl; exact rfl) | ((with_reducible apply WH.eql); exact rfl; exact rfl; exact rfl)
                  all_goals try (exfalso; first | omega | exact absurd heq (by assumption))
                  (refine W.nxt (((i : Int), i + 1)) (by first | omega | (dsimp only; omega)) ?_ ⟨rfl, rfl, trivial⟩ trivial ⟨rfl, rfl, rfl, rfl, rfl, rfl, trivial⟩ ⟨rfl, rfl, rfl, rfl, trivial⟩ trivial); (try dsimp only)
                  exact ⟨by omega, b2 hm hbn⟩
                · obtain ⟨b4, b5, b6⟩ := b3 hm (by omega)
                  have h9b := h9 _ (gC_mem (l := F) (k := b.toNat) (by omega))
                  repeat' first | ((with_reducible apply WH.c_s (f := 93) (fn := Code.f93)); exact rfl; exact rfl; exact rfl; (first | exact rfl); (focus ((repeat' first | exact args_nil | apply args_d | exact toD_d rfl | exact toD_ptr rfl rfl | exact rfl); done)); exact l06At_gives (by assumption) _ _ (by omega); exact rfl) | ((with_reducible apply WR.mv); exact rfl; exact rfl) | ((with_reducible apply WH.mv); exact rfl; exact rfl; exact rfl) | ((with_reducible apply WH.ld); exact rfl; exact rfl; exact rfl; (first | exact ldC (by first | omega)); exact rfl) | ((with_reducible apply WH.isn); exact rfl; exact rfl; exact rfl; omega; exact rfl) | ((with_reducible apply WH.is); exact rfl; exact rfl; exact rfl; omega; exact rfl) | ((with_reducible apply WR.lss); exact rfl; exact rfl; exact rfl) | ((with_reducible apply WR.le); exact rfl; exact rfl) | ((with_reducible apply WR.ad); exact rfl; exact rfl; exact rfl; (first | exact i64_in _ (by omega))) | ((with_reducible apply WR.nil)) | (with_reducible refine andThen_n ?_) | (with_reducible refine inB_n ?_) | (with_reducible refine W.seq ?_) | (with_reducible refine W.region ?_) | (with_reducible refine W.skip ?_) | (with_reducible refine W.block ?_) | ((with_reducible apply W.condT); exact rfl) | ((with_reducible apply W.condF); exact rfl) | ((with_reducible apply WH.nil)) | (with_reducible refine W.draw ?_) | (intro hb; try (exfalso; omega)) | ((with_reducible apply WH.pk); exact rfl; exact rfl; exact rfl) | ((with_reducible apply WH.lss); exact rfl; exact rfl; exact rfl) | ((with_reducible apply WH.gtr); exact rfl; exact rfl; exact rfl) | ((with_reducible apply WH.eql); exact rfl; exact rfl; exact rfl)
                  all_goals try (exfalso; first | omega | exact absurd heq (by assumption))
                  · (refine W.nxt (((i : Int), i + 1)) (by first | omega | (dsimp only; omega)) ?_ ⟨rfl, rfl, trivial⟩ trivial ⟨rfl, rfl, rfl, rfl, rfl, rfl, trivial⟩ ⟨rfl, rfl, rfl, rfl, trivial⟩ trivial); (try dsimp only)
                    exact ⟨by omega, b5 (by assumption)⟩
                  · (refine W.nxt ((b, i + 1)) (by first | omega | (dsimp only; omega)) ?_ ⟨rfl, rfl, trivial⟩ trivial ⟨rfl, rfl, rfl, rfl, rfl, rfl, trivial⟩ ⟨rfl, rfl, rfl, rfl, trivial⟩ trivial); (try dsimp only)
                    exact ⟨by omega, b6 (by assumption)⟩
            · obtain rfl : i = F.length := by omega
              obtain ⟨q1, q2, q3⟩ := best_is hT hTm (show t < T.length by omega) hB
              have h9b := h9 _ (gC_mem (l := F) (k := b.toNat) (by omega))
              have hob := hOb (10 * (gC F b.toNat).2.toNat + (gC F b.toNat).1.toNat)
              repeat' first | ((with_reducible apply WR.mv); exact rfl; exact rfl) | ((with_reducible apply WH.mv); exact rfl; exact rfl; exact rfl) | ((with_reducible apply WH.ld); exact rfl; exact rfl; exact rfl; (first | exact lev_c (by assumption) (by omega) | exact ldCx (by first | omega) | exact ldCy (by first | omega)); exact rfl) | ((with_reducible apply WH.is); exact rfl; exact rfl; exact rfl; omega; exact rfl) | ((with_reducible apply WH.ia); exact rfl; exact rfl; exact rfl; omega; exact rfl) | ((with_reducible apply WR.lss); exact rfl; exact rfl; exact rfl) | ((with_reducible apply WR.le); exact rfl; exact rfl) | ((with_reducible apply WH.fa); exact rfl; exact rfl; exact rfl) | ((with_reducible apply WR.sb); exact rfl; exact rfl; exact rfl; (first | exact i64_in _ (by omega) | exact i8_in _ (by omega))) | ((with_reducible apply WR.nil)) | (with_reducible refine andThen_n ?_) | (with_reducible refine andThen_x ?_) | (with_reducible refine inB_n ?_) | (with_reducible refine inB_x ?_) | (with_reducible refine W.seq ?_) | (with_reducible refine W.region ?_) | (with_reducible refine W.exit ?_) | ((with_reducible apply W.condF); exact rfl) | ((with_reducible apply WH.nil)) | (with_reducible refine W.draw ?_) | (intro hb; try (exfalso; omega)) | ((with_reducible apply WH.ad); exact rfl; exact rfl; exact rfl; (first | exact i64_in _ (by omega) | exact i8_in _ (by omega))) | ((with_reducible apply WH.st); exact rfl; exact rfl; exact rfl; exact stG (by omega); exact rfl; exact rfl)
              (refine W.nxt ((x - 1, t + 1, gset o (10 * (gC F b.toNat).2.toNat + (gC F b.toNat).1.toNat) (o (10 * (gC F b.toNat).2.toNat + (gC F b.toNat).1.toNat) + 1))) (by first | omega | (dsimp only; omega)) ?_ ⟨rfl, trivial⟩ ⟨rfl, trivial⟩ ⟨rfl, rfl, rfl, rfl, rfl, trivial⟩ ⟨rfl, rfl, rfl, trivial⟩ trivial); (try dsimp only)
              have hbF : gC F b.toNat ∈ F := gC_mem (by omega)
              have hown0 := own_at (low := low) (over := t) hT.dis (show t < T.length by omega)
              have hown1 := own_at (low := low) (over := t + 1) hT.dis (show t < T.length by omega)
              rw [if_neg (by omega)] at hown0
              rw [if_pos (by omega)] at hown1
              have hob2 : o (kC (gC F b.toNat)) = low := by rw [hA1 _ hbF, q3]; exact hown0
              have hst2 : T.take (t + 1) = T.take t ++ [gC T t] := by rw [List.take_add_one, gC_get (by omega)]; rfl
              refine ⟨⟨by omega, by omega⟩, fun c hc => ?_, fun k hk => ?_, fun k => ?_⟩
              · show (if kC c = kC (gC F b.toNat) then o (kC (gC F b.toNat)) + 1 else o (kC c)) = _
                by_cases e : kC c = kC (gC F b.toNat)
                · have ec := kC_inj (h9 c hc) h9b e
                  rw [if_pos e, hob2, ec, q3, hown1]
                · rw [if_neg e, hA1 c hc]
                  have hct : c ≠ gC T t := fun ee => e (by rw [ee, ← q3])
                  unfold ownE
                  rw [hst2]
                  simp only [List.mem_append, List.mem_singleton, hct, or_false]
              · show (if k = kC (gC F b.toNat) then _ else o k) = 0
                rw [if_neg (fun ee => hk _ hbF ee.symm)]
                exact hA2 k hk
              · show -10 ≤ (if k = kC (gC F b.toNat) then o (kC (gC F b.toNat)) + 1 else o k) ∧ (if k = kC (gC F b.toNat) then o (kC (gC F b.toNat)) + 1 else o k) ≤ 10
                split
                · omega
                · exact hOb k
          · obtain rfl : t = over := by omega
            have vo : IsLev o (grid .i8 o) := isLev_grid fun k _ => by have := hOb k; omega
            have hg := gridE_eq (F := F) (T := T) (low := low) (over := t) (o := o) h9 hA1 hA2
            repeat' first | ((with_reducible apply WR.mv); exact rfl; exact rfl) | ((with_reducible apply WR.nil)) | (with_reducible refine andThen_n ?_) | (with_reducible refine andThen_x ?_) | (with_reducible refine inB_x ?_) | (with_reducible refine W.seq ?_) | (with_reducible refine W.region ?_) | (with_reducible refine W.exit ?_) | (with_reducible refine W.block ?_) | ((with_reducible apply W.condF); exact rfl) | (intro hb; try (exfalso; omega)) | ((with_reducible apply WR.gtr); exact rfl; exact rfl; exact rfl)
            (refine (?_ : W _ (Code.loop _) _ _))
            (refine W.loopM [3, 4, 7, 12] [3, 4, 12, 21] [] (fun zz : (Nat) × (Int) => match zz with | (i, mv) => (F.length - i : Nat)) (fun zz : (Nat) × (Int) => match zz with | (i, mv) => (i ≤ F.length ∧ mv = sumL (fmE q T low t) (F.take i) ∧ 0 ≤ mv ∧ mv ≤ 30 * (i : Int) : Prop)) (fun zz : (Nat) × (Int) => match zz with | (i, mv) => [(17, .a (.d (.s (.int .i64 (i : Nat))))), (16, .a (.d (.s (.int .i64 mv))))]) (fun zz : (Nat) × (Int) => match zz with | (i, mv) => []) (0, 0) (⟨by omega, rfl, by omega, by omega⟩) ⟨rfl, rfl, trivial⟩ trivial trivial ?_)
            rintro ⟨i, mv⟩ σ hP hN; dsimp only [setL, putL] at hP ⊢
            obtain ⟨hi, hmv, hmb1, hmb2⟩ := hP
            by_cases hil : i < F.length
            · have hcF := gC_mem hil
              have h9i := h9 _ hcF
              have hbi : -9 ≤ q (10 * (gC F i).2.toNat + (gC F i).1.toNat) ∧ q (10 * (gC F i).2.toNat + (gC F i).1.toNat) ≤ 9 := hbF _ hcF
              have hob := hOb (10 * (gC F i).2.toNat + (gC F i).1.toNat)
              have hoc : o (10 * (gC F i).2.toNat + (gC F i).1.toNat) = ownE T low t (gC F i) := hA1 _ hcF
              have hst2 : F.take (i + 1) = F.take i ++ [gC F i] := by rw [List.take_add_one, gC_get hil]; rfl
              have hsn := sumL_snoc (fmE q T low t) (gC F i) (F.take i)
              have hfm : fmE q T low t (gC F i) = max (lv q (gC F i) - ownE T low t (gC F i)) 0 := rfl
              have hmx := l00Max_gives 0 (q (10 * (gC F i).2.toNat + (gC F i).1.toNat) - o (10 * (gC F i).2.toNat + (gC F i).1.toNat))
              rw [← hst2, ← hmv, hfm, ← hoc] at hsn
              clear hfm hoc
              repeat' first | ((with_reducible apply WH.c_s (f := 73) (fn := Code.f73)); exact rfl; exact rfl; exact rfl; (first | exact rfl); (focus ((repeat' first | exact args_nil | apply args_d | exact toD_d rfl | exact toD_ptr rfl rfl | exact rfl); done)); exact hmx; exact rfl) | ((with_reducible apply WH.c_s (f := 93) (fn := Code.f93)); exact rfl; exact rfl; exact rfl; (first | exact rfl); (focus ((repeat' first | exact args_nil | apply args_d | exact toD_d rfl | exact toD_ptr rfl rfl | exact rfl); done)); exact l06At_gives (by assumption) _ _ (by omega); exact rfl) | ((with_reducible apply WR.mv); exact rfl; exact rfl) | ((with_reducible apply WH.mv); exact rfl; exact rfl; exact rfl) | ((with_reducible apply WH.ld); exact rfl; exact rfl; exact rfl; (first | exact ldC (by first | omega)); exact rfl) | ((with_reducible apply WH.isn); exact rfl; exact rfl; exact rfl; omega; exact rfl) | ((with_reducible apply WR.lss); exact rfl; exact rfl; exact rfl) | ((with_reducible apply WR.le); exact rfl; exact rfl) | ((with_reducible apply WR.ad); exact rfl; exact rfl; exact rfl; (first | exact i64_in _ (by omega))) | ((with_reducible apply WR.nil)) | (with_reducible refine andThen_n ?_) | (with_reducible refine inB_n ?_) | (with_reducible refine W.seq ?_) | (with_reducible refine W.region ?_) | (with_reducible refine W.skip ?_) | (with_reducible refine W.block ?_) | ((with_reducible apply W.condT); exact rfl) | ((with_reducible apply WH.nil)) | (with_reducible refine W.draw ?_) | (intro hb; try (exfalso; omega)) | ((with_reducible apply WH.ad); exact rfl; exact rfl; exact rfl; (first | exact i64_in _ (by omega))) | ((with_reducible apply WH.sb); exact rfl; exact rfl; exact rfl; (first | exact i64_in _ (by omega)))
              (refine W.nxt ((i + 1, mv + max 0 (q (10 * (gC F i).2.toNat + (gC F i).1.toNat) - o (10 * (gC F i).2.toNat + (gC F i).1.toNat)))) (by first | omega | (dsimp only; omega)) ?_ ⟨rfl, rfl, trivial⟩ trivial ⟨rfl, rfl, rfl, rfl, trivial⟩ ⟨rfl, rfl, rfl, rfl, trivial⟩ trivial); (try dsimp only)
              refine ⟨by omega, ?_, by omega, by omega⟩
              rw [hsn, Int.max_comm]; rfl
            · obtain rfl : i = F.length := by omega
              rw [List.take_of_length_le (Nat.le_refl _)] at hmv
              rw [← hg, ← hmv]
              repeat' first | ((with_reducible apply WR.mv); exact rfl; exact rfl) | ((with_reducible apply WR.lss); exact rfl; exact rfl; exact rfl) | ((with_reducible apply WR.le); exact rfl; exact rfl) | ((with_reducible apply WR.st); exact rfl; exact rfl; exact rfl; exact storeAll (by first | exact List.length_replicate .. | exact grid_len) (by first | exact List.length_replicate .. | exact grid_len)) | ((with_reducible apply WR.nil)) | (with_reducible refine andThen_n ?_) | (with_reducible refine andThen_x ?_) | (with_reducible refine inB_x ?_) | (with_reducible refine W.seq ?_) | (with_reducible refine W.region ?_) | (with_reducible refine W.ret ?_) | (with_reducible refine W.exit ?_) | ((with_reducible apply W.condF); exact rfl) | ((with_reducible apply Done.f); (intro hh hh2; exact (nomatch hh2)); (focus ((repeat' first | exact all_nil | apply all_cons | exact res_tmp rfl | exact res_cell rfl rfl (by first | exact List.length_replicate .. | exact grid_len)); done)); (focus ((repeat' first | exact all_nil | apply all_cons | exact retOf_s rfl | exact retOf_a rfl); done)); exact rfl; (focus ((repeat' first | exact outs_nil | apply outs_d); done))) | (intro hb; try (exfalso; omega)) | ((with_reducible apply WR.ld); exact rfl; exact rfl; exact rfl; (first | exact loadC_all (IsLev.len (by assumption))))
              rfl
  · rw [evRes, if_neg hL]
    rw [decide_eq_false hL] at hmc
    refine Gives.by rfl rfl (W.seq ?_)
    repeat' first | ((with_reducible apply WR.c_s (f := 49) (fn := Code.f49)); exact rfl; exact rfl; exact rfl; (first | exact rfl); (focus ((repeat' first | exact args_nil | apply args_d | exact toD_ptr rfl rfl | exact all_nil | apply all_cons | exact rfl); done)); exact hmc) | ((with_reducible apply WR.mv); exact rfl; exact rfl) | ((with_reducible apply WR.st); exact rfl; exact rfl; exact rfl; exact storeAll (by first | exact List.length_replicate .. | exact IsLev.len (by assumption) | exact IsLawn.len (by assumption) | exact rfl) (by first | exact List.length_replicate .. | exact IsLev.len (by assumption) | exact IsLawn.len (by assumption) | exact rfl)) | ((with_reducible apply WR.bu); exact rfl; exact rfl) | ((with_reducible apply WR.nil)) | (with_reducible refine andThen_n ?_) | (with_reducible refine andThen_r ?_) | (with_reducible refine W.seq ?_) | (with_reducible refine W.region ?_) | (with_reducible refine W.ret ?_) | ((with_reducible apply W.condT); exact rfl) | ((with_reducible apply Done.f); (intro hh hh2; exact (nomatch hh2)); (focus ((repeat' first | exact all_nil | apply all_cons | exact res_tmp rfl | exact res_cell rfl rfl (by first | exact List.length_replicate .. | exact IsLev.len (by assumption) | exact IsLawn.len (by assumption) | exact rfl) | exact rfl); done)); (focus ((repeat' first | exact all_nil | apply all_cons | exact retOf_s rfl | exact retOf_a rfl | exact rfl); done)); exact rfl; (focus ((repeat' first | exact outs_nil | apply outs_d | exact rfl); done))) | ((with_reducible apply WR.bx); exact rfl; exact rfl; exact (by first | exact List.length_replicate .. | exact IsLev.len (by assumption) | exact IsLawn.len (by assumption) | exact rfl); (first | exact rfl)) | ((with_reducible apply WR.al); exact rfl; (first | exact rfl)) | ((with_reducible apply WR.un); exact rfl; exact rfl)
    all_goals first
      | (exfalso; omega)
      | rfl
theorem law_EvenLevels (l : IsLawn w h g cs) (v : IsLev q qs) : Gives G 194 [aa cs, aa qs] ⟨[.s (.bool true)], []⟩ := by
  have h1 := evenS_gives l v
  have h2 := evenP_gives l v
  have e : ∃ o m c, evRes w h g q = ⟨[.agg (grid .i8 o), .s (.int .i64 m), .s (.int .i64 c)], []⟩ := by
    unfold evRes
    rw [grid_rep]
    split
    · split <;> exact ⟨_, _, _, rfl⟩
    · exact ⟨_, _, _, rfl⟩
  obtain ⟨o, m, c, e⟩ := e
  rw [e] at h1 h2
  refine Gives.by rfl rfl (W.seq ?_)
  repeat' first | ((with_reducible apply WH.c_ass (f := 202) (fn := Code.f202)); exact rfl; exact rfl; exact rfl; (first | exact rfl); (focus ((repeat' first | exact args_nil | apply args_d | exact toD_d rfl | exact all_nil | apply all_cons | exact rfl); done)); exact h1; exact rfl) | ((with_reducible apply WH.c_ass (f := 203) (fn := Code.f203)); exact rfl; exact rfl; exact rfl; (first | exact rfl); (focus ((repeat' first | exact args_nil | apply args_d | exact toD_d rfl | exact all_nil | apply all_cons | exact rfl); done)); exact h2; exact rfl) | ((with_reducible apply WH.c_a (f := 9) (fn := Code.f9)); exact rfl; exact rfl; exact rfl; (first | exact rfl); (focus ((repeat' first | exact args_nil | apply args_d | exact toD_d rfl | exact all_nil | apply all_cons | exact rfl); done)); exact toLawn_gives (by assumption); exact rfl) | ((with_reducible apply WH.c_a (f := 10) (fn := Code.f10)); exact rfl; exact rfl; exact rfl; (first | exact rfl); (focus ((repeat' first | exact args_nil | apply args_d | exact toD_d rfl | exact all_nil | apply all_cons | exact rfl); done)); exact toLevels_gives (IsLev.len (by assumption)); exact rfl) | ((with_reducible apply WR.c_s (f := 165) (fn := Code.f165)); exact rfl; exact rfl; exact rfl; (first | exact rfl); (focus ((repeat' first | exact args_nil | apply args_d | exact toD_d rfl | exact all_nil | apply all_cons | exact rfl); done)); exact eqLevels_gives _) | ((with_reducible apply WR.mv); exact rfl; exact rfl) | ((with_reducible apply WH.mv); exact rfl; exact rfl; exact rfl) | ((with_reducible apply WH.ex); exact rfl; exact rfl; exact rfl) | ((with_reducible apply WH.mvt); exact rfl; exact rfl; exact rfl) | ((with_reducible apply WH.ld); exact rfl; exact rfl; exact rfl; (first | exact loadC_all (IsLawn.len (by assumption)) | exact loadC_all (IsLev.len (by assumption)) | exact loadC_all grid_len); exact rfl) | ((with_reducible apply WR.nil)) | (with_reducible refine andThen_n ?_) | (with_reducible refine W.seq ?_) | (with_reducible refine W.region ?_) | (with_reducible refine W.skip ?_) | (with_reducible refine W.ret ?_) | ((with_reducible apply W.condF); exact rfl) | ((with_reducible apply Done.f); (intro hh hh2; exact (nomatch hh2)); (focus ((repeat' first | exact all_nil | apply all_cons | exact res_tmp rfl | exact rfl); done)); (focus ((repeat' first | exact all_nil | apply all_cons | exact retOf_s rfl | exact rfl); done)); exact rfl; (focus ((repeat' first | exact outs_nil | apply outs_d | exact rfl); done))) | ((with_reducible apply WH.nil)) | (with_reducible refine W.draw ?_) | (intro hb; try (exfalso; omega)) | ((with_reducible apply WR.neq); exact rfl; exact rfl; exact rfl) | ((with_reducible apply WR.bx); exact rfl; exact rfl; exact (by first | exact List.length_replicate .. | exact grid_len | exact IsLev.len (by assumption) | exact IsLawn.len (by assumption) | exact rfl); (first | exact rfl)) | ((with_reducible apply WR.ld); exact rfl; exact rfl; exact rfl; (first | exact loadC_all (IsLawn.len (by assumption)) | exact loadC_all (IsLev.len (by assumption)) | exact loadC_all grid_len)) | ((with_reducible apply WR.pk); exact rfl; exact rfl) | ((with_reducible apply WH.al); exact rfl; (first | exact rfl); exact rfl; exact rfl) | ((with_reducible apply WH.st); exact rfl; exact rfl; exact rfl; exact storeAll (by first | exact List.length_replicate .. | exact grid_len | exact IsLev.len (by assumption) | exact IsLawn.len (by assumption) | exact rfl) (by first | exact List.length_replicate .. | exact grid_len | exact IsLev.len (by assumption) | exact IsLawn.len (by assumption) | exact rfl); exact rfl; exact rfl) | ((with_reducible apply WR.un); exact rfl; exact rfl)
  all_goals first
    | (exfalso; simp_all; done)
    | rfl
end Go.DM
