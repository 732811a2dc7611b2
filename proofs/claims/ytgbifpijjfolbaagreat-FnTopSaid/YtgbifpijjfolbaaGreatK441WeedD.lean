/- Weeds: a day later, a row cut: both sides. -/
import Derived.Test.YtgbifpijjfolbaaGreatK441Bfs
set_option linter.all false
set_option maxHeartbeats 4000000
namespace Go.DM
variable [Tok]
open Go.IntWalk
variable {w h : Int} {g : Nat → Int} {cs : List S}
theorem l07Has_gives (q : Nat → Int) (hq : WB q) (x y : Int) (hb : 0 ≤ x ∧ x < 10 ∧ 0 ≤ y ∧ y < 10) : Gives G 439 [ar (wR q), ac x y] (rb (decide (bitQ q y.toNat x.toNat))) := by
  have hqy := hq y.toNat (by omega)
  have hdv := div_b hqy x.toNat
  refine Gives.by rfl rfl (W.seq ?_)
  repeat' first | ((with_reducible apply WH.c_p (f := 92) (fn := Code.f92)); (iterate 3 exact rfl); exact rfl; (focus ((repeat' first | exact args_nil | apply args_d | exact toD_d rfl | exact all_nil | apply all_cons | exact rfl); done)); exact l00In_gives _ _ _) | ((with_reducible apply WH.ldd); exact rfl; exact rfl; (exact ldR (by omega)); exact rfl) | ((with_reducible first | apply WH.lx | apply WH.mv | apply WH.fa | apply WH.pk | apply WH.eql | apply WH.nc); iterate 3 exact rfl) | (with_reducible first | apply WR.nil | refine andThen_n ?_ | refine W.seq ?_ | refine W.region ?_ | refine W.ret ?_ | apply WH.nil | refine W.draw ?_) | ((with_reducible apply Done.f); (intro hh hh2; exact (nomatch hh2)); (focus ((repeat' first | exact all_nil | apply all_cons | exact res_tmp rfl | exact rfl); done)); (focus ((repeat' first | exact all_nil | apply all_cons | exact retOf_s rfl | exact rfl); done)); exact rfl; (focus ((repeat' first | exact outs_nil | apply outs_d | exact rfl); done))) | ((with_reducible apply WH.cv); exact rfl; exact rfl; (first | exact i64_in _ (by omega) | exact u64_in _ (by omega))) | (intro hb; try (exfalso; omega)) | ((with_reducible apply WR.mv); exact rfl; exact rfl) | ((with_reducible apply WR.bx); exact rfl; exact rfl; exact (by first | exact rfl); exact rfl) | ((with_reducible first | apply WH.bsr | apply WH.remp); (iterate 3 exact rfl); omega) | ((with_reducible apply WH.iar); (iterate 3 exact rfl); omega; exact rfl)
  all_goals first
    | exact rb_t (by assumption)
    | exact rb_f (by assumption)
    | (exfalso; omega)
theorem holds_soil (l : IsLawn w h g cs) (hs : w ≤ 10 ∧ h ≤ 10) : HoldsC G (.clo 318 [.agg cs] []) (fun c => Soil w h g c.1 c.2) (fun _ => True) :=
  ⟨318, Code.f318, _, _, rfl, rfl, rfl, fun c _ => soil_gives l c.1 c.2 hs⟩
theorem spread_gives (l : IsLawn w h g cs) (hs : 0 ≤ w ∧ w ≤ 10 ∧ 0 ≤ h ∧ h ≤ 10) {q : Nat → Int} (hq : WB q) (need : Int) : Gives G 422 [aa cs, aa (wR q), ai .i64 need] ⟨[.agg (wR (dayQ w h g need q))], []⟩ := by
  have hth : Gives G 31 [aa cs, .d (.clo 318 [.agg cs] [])] ⟨[.own (soilC w h g).length 2 (encC (soilC w h g))], []⟩ := those_gives l hs (holds_soil l ⟨by omega, by omega⟩) (fun _ _ => trivial)
  have hmem : ∀ c ∈ soilC w h g, Has w h c.1 c.2 := fun c hc => (soilC_mem hc).1
  have hl : (soilC w h g).length ≤ 100 := Nat.le_trans (List.length_filter_le ..) (allC_len ⟨by omega, by omega⟩)
  obtain ⟨R, hR⟩ : ∃ R, R = dayQ w h g need q := ⟨_, rfl⟩
  rw [← hR]
  unfold dayQ at hR
  generalize soilC w h g = L at hth hmem hl hR
  refine Gives.by rfl rfl (W.seq ?_)
  repeat' first | ((with_reducible apply WR.c_o (f := 31) (fn := Code.f31)); (iterate 3 exact rfl); exact rfl; (focus ((repeat' first | exact args_nil | apply args_d | exact toD_d rfl | (apply toD_clo; exact rfl) | exact all_nil | apply all_cons | exact rfl); done)); exact hth; exact rfl) | ((with_reducible apply WR.ld); (iterate 3 exact rfl); (first | exact loadC_all (IsLawn.len (by assumption)) | exact loadC_all rowI_len)) | ((with_reducible first | apply WR.mv | apply WR.le | apply WR.mf); exact rfl; exact rfl) | ((with_reducible apply WR.st); (iterate 3 exact rfl); exact storeAll (by first | exact List.length_replicate .. | exact IsLawn.len (by assumption) | exact rowI_len | exact rfl) (by first | exact List.length_replicate .. | exact IsLawn.len (by assumption) | exact rowI_len | exact rfl)) | ((with_reducible apply WR.al); exact rfl; exact rfl) | (with_reducible first | apply WR.nil | refine andThen_n ?_ | refine W.seq ?_ | refine W.region ?_ | refine W.block ?_) | ((with_reducible apply WR.bx); exact rfl; exact rfl; exact (by first | exact List.length_replicate .. | exact IsLawn.len (by assumption) | exact rowI_len | exact rfl); exact rfl)
  (refine (?_ : W _ (Code.loop _) _ _))
  (refine W.loopM [2, 3, 4, 6, 7, 17, 18] [3, 4, 6, 17] [9, 12, 24] (fun ((i, out) : (Nat) × (Nat → Int)) => (L.length - i : Nat)) (fun ((i, out) : (Nat) × (Nat → Int)) => (i ≤ L.length ∧ out = (L.take i).foldl (dayS w h need q) q : Prop)) (fun z : (Nat) × (Nat → Int) => match z with | (i, out) => [(19, .a (.d (.s (.int .i64 (i : Nat)))))]) (fun z : (Nat) × (Nat → Int) => match z with | (i, out) => [(7, .flat false (wR out))]) (0, q) (⟨by omega, rfl⟩) ⟨rfl, trivial⟩ ⟨rfl, trivial⟩ ⟨np, np, np, trivial⟩ ?_)
  rintro ⟨i, out⟩ σ hP hN; dsimp only [setL, putL] at hP ⊢; obtain ⟨n9, hN⟩ := hN; obtain ⟨n12, hN⟩ := hN; obtain ⟨n24, hN⟩ := hN
  obtain ⟨hi, ho⟩ := hP
  by_cases hil : i < L.length
  · have hH := hmem _ (gC_mem hil)
    simp only [Has] at hH
    have hst : (L.take (i + 1)).foldl (dayS w h need q) q = dayS w h need q out (gC L i) := by rw [fold_snoc _ (gC_get hil), ← ho]
    have hbs := beside_gives (gC L i).1 (gC L i).2 (by omega)
    have hnb : nbQ w h q (gC L i) = (((Near (gC L i).1 (gC L i).2).filter fun d => decide (nbP w h q d)).length : Nat) := rfl
    have hNb : ∀ d ∈ Near (gC L i).1 (gC L i).2, -128 ≤ d.1 ∧ d.1 ≤ 127 ∧ -128 ≤ d.2 ∧ d.2 ≤ 127 := fun d hd => by
      have := Near_b hd
      omega
    have hN4 : (Near (gC L i).1 (gC L i).2).length = 4 := rfl
    have hput := putG_gives out (gC L i).1 (gC L i).2 (by omega)
    generalize Near (gC L i).1 (gC L i).2 = N at hbs hnb hNb hN4
    rw [← hN4] at hbs
    repeat' first | ((with_reducible apply WR.c_o (f := 89) (fn := Code.f89)); (iterate 3 exact rfl); exact rfl; (focus ((repeat' first | exact args_nil | apply args_d | exact toD_d rfl | exact rfl); done)); exact hbs; (first | exact rfl | assumption | (focus ((repeat' first | exact rfl | assumption | (with_reducible apply noPar_set) | ((with_reducible apply noPar_puto); exact rfl) | (with_reducible apply noPar_kill)); done)))) | ((with_reducible apply WR.ld); (iterate 3 exact rfl); (first | exact ld2 | exact ldC (by first | omega))) | ((with_reducible first | apply WR.mv | apply WR.le); exact rfl; exact rfl) | ((with_reducible apply WR.st); (iterate 3 exact rfl); exact st2) | ((with_reducible apply WR.al); exact rfl; (first | exact rfl | assumption | (focus ((repeat' first | exact rfl | assumption | (with_reducible apply noPar_set) | ((with_reducible apply noPar_puto); exact rfl) | (with_reducible apply noPar_kill)); done)))) | (with_reducible first | apply WR.nil | refine andThen_n ?_ | refine W.seq ?_ | refine W.region ?_ | refine W.skip ?_ | refine W.block ?_) | ((with_reducible apply W.condT); exact rfl) | (intro hb; try (exfalso; omega)) | ((with_reducible apply WR.lss); iterate 3 exact rfl) | ((with_reducible apply WR.isn); (iterate 3 exact rfl); omega)
    (refine (?_ : W _ (Code.loop _) _ _))
    (refine W.loopM [2, 3, 4, 6, 7, 9, 17, 18, 19, 24, 25] [3, 4, 6, 7, 9, 17, 24] [9, 12, 24] (fun ((j, n) : (Nat) × (Int)) => (N.length - j : Nat)) (fun ((j, n) : (Nat) × (Int)) => (j ≤ N.length ∧ n = (((N.take j).filter fun d => decide (nbP w h q d)).length : Nat) ∧ 0 ≤ n ∧ n ≤ j : Prop)) (fun z : (Nat) × (Int) => match z with | (j, n) => [(10, .a (.d (.s (.int .i64 n)))), (26, .a (.d (.s (.int .i64 (j : Nat)))))]) (fun z : (Nat) × (Int) => match z with | (j, n) => []) (0, 0) (⟨by omega, rfl, by omega, by omega⟩) ⟨rfl, rfl, trivial⟩ trivial ⟨np, np, np, trivial⟩ ?_)
    rintro ⟨j, n⟩ σ hP hN; dsimp only [setL, putL] at hP ⊢; obtain ⟨n9, hN⟩ := hN; obtain ⟨n12, hN⟩ := hN; obtain ⟨n24, hN⟩ := hN
    obtain ⟨hj, hn, hn0, hnj⟩ := hP
    by_cases hjl : j < N.length
    · have hfs := filter_snoc (p := fun d => decide (nbP w h q d)) (gC_get hjl)
      have hHas := has_gives l (gC N j).1 (gC N j).2
      by_cases hHj : Has w h (gC N j).1 (gC N j).2
      · have hHj2 := hHj
        simp only [Has] at hHj2
        have hbit := weedsHas_gives q hq (gC N j).1 (gC N j).2 (by omega)
        rw [decide_eq_true (show 0 ≤ (gC N j).1 ∧ (gC N j).1 < w ∧ 0 ≤ (gC N j).2 ∧ (gC N j).2 < h from hHj)] at hHas
        by_cases hb : bitQ q (gC N j).2.toNat (gC N j).1.toNat
        · rw [decide_eq_true hb] at hbit
          rw [if_pos (by exact decide_eq_true ⟨hHj, hb⟩)] at hfs
          repeat' first | ((with_reducible apply WR.c_s (f := 62) (fn := Code.f62)); (iterate 3 exact rfl); exact rfl; (focus ((repeat' first | exact args_nil | apply args_d | exact toD_d rfl | exact rfl); done)); exact hHas) | ((with_reducible apply WR.c_s (f := 320) (fn := Code.f320)); (iterate 3 exact rfl); exact rfl; (focus ((repeat' first | exact args_nil | apply args_d | exact toD_d rfl | exact rfl); done)); exact hbit) | ((with_reducible apply WR.ld); (iterate 3 exact rfl); (first | exact ld2 | exact loadC_all (IsLawn.len (by assumption)) | exact ldC (by first | omega) | exact loadC_all rowI_len)) | ((with_reducible first | apply WR.mv | apply WR.pk); exact rfl; exact rfl) | ((with_reducible apply WR.st); (iterate 3 exact rfl); exact st2) | ((with_reducible apply WR.al); exact rfl; (first | exact rfl | assumption)) | ((with_reducible apply WR.ad); (iterate 3 exact rfl); (first | exact i64_in _ (by omega) | assumption)) | (with_reducible first | apply WR.nil | refine andThen_n ?_ | refine inB_n ?_ | refine W.seq ?_ | refine W.region ?_ | refine W.skip ?_ | refine W.block ?_) | ((with_reducible apply W.condT); exact rfl) | (intro hb; try (exfalso; omega)) | ((with_reducible apply WR.lss); iterate 3 exact rfl) | ((with_reducible apply WR.isn); (iterate 3 exact rfl); omega)
          (refine W.nxt (j + 1, n + 1) (by first | omega | (dsimp only; omega)) ?_ ⟨rfl, rfl, trivial⟩ trivial ⟨rfl, rfl, rfl, rfl, rfl, rfl, rfl, rfl, rfl, rfl, rfl, trivial⟩ ⟨rfl, rfl, rfl, rfl, rfl, rfl, rfl, trivial⟩ ⟨np, np, np, trivial⟩); (try dsimp only)
          exact ⟨by omega, by rw [hfs, List.length_append, hn]; simp, by omega, by omega⟩
        · rw [decide_eq_false hb] at hbit
          rw [if_neg (by rw [decide_eq_false (fun k => hb k.2)]; decide), List.append_nil] at hfs
          repeat' first | ((with_reducible apply WR.c_s (f := 62) (fn := Code.f62)); (iterate 3 exact rfl); exact rfl; (focus ((repeat' first | exact args_nil | apply args_d | exact toD_d rfl | exact rfl); done)); exact hHas) | ((with_reducible apply WR.c_s (f := 320) (fn := Code.f320)); (iterate 3 exact rfl); exact rfl; (focus ((repeat' first | exact args_nil | apply args_d | exact toD_d rfl | exact rfl); done)); exact hbit) | ((with_reducible apply WR.ld); (iterate 3 exact rfl); (first | exact ld2 | exact loadC_all (IsLawn.len (by assumption)) | exact ldC (by first | omega) | exact loadC_all rowI_len)) | ((with_reducible first | apply WR.mv | apply WR.pk); exact rfl; exact rfl) | ((with_reducible apply WR.st); (iterate 3 exact rfl); exact st2) | ((with_reducible apply WR.al); exact rfl; (first | exact rfl | assumption)) | ((with_reducible apply WR.ad); (iterate 3 exact rfl); (first | exact i64_in _ (by omega) | assumption)) | (with_reducible first | apply WR.nil | refine andThen_n ?_ | refine inB_n ?_ | refine W.seq ?_ | refine W.region ?_ | refine W.skip ?_ | refine W.block ?_) | ((with_reducible apply W.condT); exact rfl) | ((with_reducible apply W.condF); exact rfl) | (intro hb; try (exfalso; omega)) | ((with_reducible apply WR.lss); iterate 3 exact rfl) | ((with_reducible apply WR.isn); (iterate 3 exact rfl); omega)
          (refine W.nxt (j + 1, n) (by first | omega | (dsimp only; omega)) ?_ ⟨rfl, rfl, trivial⟩ trivial ⟨rfl, rfl, rfl, rfl, rfl, rfl, rfl, rfl, rfl, rfl, rfl, trivial⟩ ⟨rfl, rfl, rfl, rfl, rfl, rfl, rfl, trivial⟩ ⟨np, np, np, trivial⟩); (try dsimp only)
          exact ⟨by omega, by rw [hfs, hn], by omega, by omega⟩
      · rw [decide_eq_false (show ¬ (0 ≤ (gC N j).1 ∧ (gC N j).1 < w ∧ 0 ≤ (gC N j).2 ∧ (gC N j).2 < h) from hHj)] at hHas
        rw [if_neg (by rw [decide_eq_false (fun k => hHj k.1)]; decide), List.append_nil] at hfs
        repeat' first | ((with_reducible apply WR.c_s (f := 62) (fn := Code.f62)); (iterate 3 exact rfl); exact rfl; (focus ((repeat' first | exact args_nil | apply args_d | exact toD_d rfl | exact rfl); done)); exact hHas) | ((with_reducible apply WR.ld); (iterate 3 exact rfl); (first | exact ld2 | exact loadC_all (IsLawn.len (by assumption)) | exact ldC (by first | omega))) | ((with_reducible first | apply WR.mv | apply WR.pk); exact rfl; exact rfl) | ((with_reducible apply WR.st); (iterate 3 exact rfl); exact st2) | ((with_reducible apply WR.al); exact rfl; (first | exact rfl | assumption)) | ((with_reducible apply WR.ad); (iterate 3 exact rfl); (first | exact i64_in _ (by omega) | assumption)) | (with_reducible first | apply WR.nil | refine andThen_n ?_ | refine inB_n ?_ | refine W.seq ?_ | refine W.region ?_ | refine W.skip ?_ | refine W.block ?_) | ((with_reducible apply W.condT); exact rfl) | ((with_reducible apply W.condF); exact rfl) | (intro hb; try (exfalso; omega)) | ((with_reducible apply WR.lss); iterate 3 exact rfl) | ((with_reducible apply WR.isn); (iterate 3 exact rfl); omega) | ((with_reducible apply WR.off); exact rfl)
        (refine W.nxt (j + 1, n) (by first | omega | (dsimp only; omega)) ?_ ⟨rfl, rfl, trivial⟩ trivial ⟨rfl, rfl, rfl, rfl, rfl, rfl, rfl, rfl, rfl, rfl, rfl, trivial⟩ ⟨rfl, rfl, rfl, rfl, rfl, rfl, rfl, trivial⟩ ⟨np, np, np, trivial⟩); (try dsimp only)
        exact ⟨by omega, by rw [hfs, hn], by omega, by omega⟩
    · rw [List.take_of_length_le (by omega)] at hn
      have hnn : n = nbQ w h q (gC L i) := by rw [hnb, hn]
      by_cases hnd : need ≤ n
      · unfold dayS at hst
        rw [if_pos (by omega)] at hst
        repeat' first | ((with_reducible apply WR.c_a (f := 302) (fn := Code.f302)); (iterate 3 exact rfl); exact rfl; (focus ((repeat' first | exact args_nil | apply args_d | exact toD_d rfl | exact rfl); done)); exact hput) | ((with_reducible apply WR.ld); (iterate 3 exact rfl); (first | exact ld2 | exact loadC_all rowI_len)) | ((with_reducible apply WR.mv); exact rfl; exact rfl) | ((with_reducible apply WR.st); (iterate 3 exact rfl); exact storeAll (by first | exact rowI_len | exact rfl) (by first | exact rowI_len | exact rfl)) | ((with_reducible apply WR.ad); (iterate 3 exact rfl); (exact i64_in _ (by omega))) | (with_reducible first | apply WR.nil | refine andThen_n ?_ | refine andThen_x ?_ | refine inB_n ?_ | refine inB_x ?_ | refine W.seq ?_ | refine W.region ?_ | refine W.exit ?_) | ((with_reducible apply W.condT); exact rfl) | ((with_reducible apply W.condF); exact rfl) | (intro hb; try (exfalso; omega)) | ((with_reducible first | apply WR.lss | apply WR.geq); iterate 3 exact rfl)
        all_goals first
          | (exfalso; omega)
          | ((refine W.nxt (i + 1, gset out (gC L i).2.toNat (orB (out (gC L i).2.toNat) (2 ^ (gC L i).1.toNat))) (by first | omega | (dsimp only; omega)) ?_ ⟨rfl, trivial⟩ ⟨rfl, trivial⟩ ⟨rfl, rfl, rfl, rfl, rfl, rfl, rfl, trivial⟩ ⟨rfl, rfl, rfl, rfl, trivial⟩ ⟨np, np, np, trivial⟩); (try dsimp only)
             exact ⟨by omega, hst.symm⟩)
      · unfold dayS at hst
        rw [if_neg (by omega)] at hst
        repeat' first | ((with_reducible apply WR.mv); exact rfl; exact rfl) | ((with_reducible apply WR.ad); (iterate 3 exact rfl); (exact i64_in _ (by omega))) | (with_reducible first | apply WR.nil | refine andThen_n ?_ | refine andThen_x ?_ | refine inB_n ?_ | refine inB_x ?_ | refine W.seq ?_ | refine W.region ?_ | refine W.skip ?_ | refine W.exit ?_) | ((with_reducible apply W.condF); exact rfl) | (intro hb; try (exfalso; omega)) | ((with_reducible first | apply WR.lss | apply WR.geq); iterate 3 exact rfl)
        all_goals first
          | (exfalso; omega)
          | ((refine W.nxt (i + 1, out) (by first | omega | (dsimp only; omega)) ?_ ⟨rfl, trivial⟩ ⟨rfl, trivial⟩ ⟨rfl, rfl, rfl, rfl, rfl, rfl, rfl, trivial⟩ ⟨rfl, rfl, rfl, rfl, trivial⟩ ⟨np, np, np, trivial⟩); (try dsimp only)
             exact ⟨by omega, hst.symm⟩)
  · rw [List.take_of_length_le (by omega)] at ho
    rw [hR, ← ho]
    repeat' first | ((with_reducible apply WR.ld); (iterate 3 exact rfl); (exact loadC_all rowI_len)) | ((with_reducible apply WR.st); (iterate 3 exact rfl); exact storeAll (by first | exact List.length_replicate .. | exact rowI_len) (by first | exact List.length_replicate .. | exact rowI_len)) | (with_reducible first | apply WR.nil | refine andThen_n ?_ | refine andThen_x ?_ | refine inB_x ?_ | refine W.seq ?_ | refine W.region ?_ | refine W.ret ?_ | refine W.exit ?_) | ((with_reducible apply W.condF); exact rfl) | ((with_reducible apply Done.f); (intro hh hh2; exact (nomatch hh2)); (focus ((repeat' first | exact all_nil | apply all_cons | exact res_cell rfl rfl (by first | exact List.length_replicate .. | exact rowI_len)); done)); (focus ((repeat' first | exact all_nil | apply all_cons | exact retOf_a rfl); done)); exact rfl; (focus ((repeat' first | exact outs_nil | apply outs_d); done))) | (intro hb; try (exfalso; omega)) | ((with_reducible apply WR.lss); iterate 3 exact rfl)
    rfl
def dayT (w h : Int) (g : Nat → Int) (need : Int) (q out : Nat → Int) (c : Cel) : Nat → Int := if Soil w h g c.1 c.2 then dayS w h need q out c else out
theorem dayT_fold (need : Int) (q : Nat → Int) : ∀ (L : List Cel) (out : Nat → Int), L.foldl (dayT w h g need q) out = (L.filter fun c => decide (Soil w h g c.1 c.2)).foldl (dayS w h need q) out
  | [], out => rfl
  | c :: L, out => by
    rw [List.foldl_cons, dayT_fold need q L, List.filter_cons]
    unfold dayT
    by_cases hc : Soil w h g c.1 c.2
    · simp [hc]
    · simp [hc]
theorem nb_inside (q : Nat → Int) (c : Cel) : ((inside w h (Near c.1 c.2)).filter fun d => decide (bitQ q d.2.toNat d.1.toNat)) = (Near c.1 c.2).filter fun d => decide (nbP w h q d) := by
  unfold inside
  rw [List.filter_filter]
  apply List.filter_congr
  intro d _
  by_cases h1 : Has w h d.1 d.2
  · by_cases h2 : bitQ q d.2.toNat d.1.toNat
    · simp [nbP, h1, h2]
    · simp [nbP, h1, h2]
  · simp [nbP, h1]
theorem l07Day_gives (l : IsLawn w h g cs) (hs : 0 ≤ w ∧ w ≤ 10 ∧ 0 ≤ h ∧ h ≤ 10) {q : Nat → Int} (hq : WB q) (need : Int) : Gives G 427 [ar cs, ar (wR q), ai .i64 need] ⟨[.agg (wR (dayQ w h g need q))], []⟩ := by
  have hal := l01All_gives l hs
  have hAl := allC_len (w := w) (h := h) ⟨by omega, by omega⟩
  have hmem := fun c => allC_mem (w := w) (h := h) (c := c)
  obtain ⟨R, hR⟩ : ∃ R, R = dayQ w h g need q := ⟨_, rfl⟩
  rw [← hR]
  unfold dayQ soilC those at hR
  rw [← dayT_fold] at hR
  generalize allC w h = A at hal hAl hmem hR
  refine Gives.by rfl rfl (W.seq ?_)
  repeat' first | ((with_reducible apply WR.c_o (f := 60) (fn := Code.f60)); (iterate 3 exact rfl); exact rfl; (focus ((repeat' first | exact args_nil | apply args_d | exact toD_d rfl | exact rfl); done)); exact hal; exact rfl) | ((with_reducible first | apply WR.mv | apply WR.nc); exact rfl; exact rfl) | ((with_reducible apply WR.ldr); exact rfl; exact rfl; (exact loadC_all rowI_len)) | (with_reducible first | apply WR.nil | refine andThen_n ?_ | refine W.seq ?_ | refine W.region ?_ | refine W.block ?_) | ((with_reducible apply WR.al); exact rfl; exact rfl) | ((with_reducible apply WR.st); (iterate 3 exact rfl); exact storeAll (by first | exact List.length_replicate .. | exact rowI_len | exact rfl) (by first | exact List.length_replicate .. | exact rowI_len | exact rfl))
  (refine (?_ : W _ (Code.loop _) _ _))
  (refine W.loopM [0, 1, 2, 6, 7, 8] [6, 17] [36] (fun ((i, out) : (Nat) × (Nat → Int)) => (A.length - i : Nat)) (fun ((i, out) : (Nat) × (Nat → Int)) => (i ≤ A.length ∧ out = (A.take i).foldl (dayT w h g need q) q : Prop)) (fun z : (Nat) × (Nat → Int) => match z with | (i, out) => [(9, .a (.d (.s (.int .i64 (i : Nat)))))]) (fun z : (Nat) × (Nat → Int) => match z with | (i, out) => [(7, .flat false (wR out))]) (0, q) (⟨by omega, rfl⟩) ⟨rfl, trivial⟩ ⟨rfl, trivial⟩ ⟨np, trivial⟩ ?_)
  rintro ⟨i, out⟩ σ hP hN; dsimp only [setL, putL] at hP ⊢; obtain ⟨n36, hN⟩ := hN
  obtain ⟨hi, ho⟩ := hP
  by_cases hil : i < A.length
  · have hH := hmem _ (gC_mem hil)
    simp only [Has] at hH
    have hst : (A.take (i + 1)).foldl (dayT w h g need q) q = dayT w h g need q out (gC A i) := by rw [fold_snoc _ (gC_get hil), ← ho]
    have hso := l07Soil_gives l (gC A i).1 (gC A i).2 ⟨by omega, by omega⟩ (by omega)
    by_cases hS : Soil w h g (gC A i).1 (gC A i).2
    · unfold dayT at hst
      rw [if_pos hS] at hst
      rw [decide_eq_true hS] at hso
      have hbs := l01Beside_gives l (gC A i).1 (gC A i).2 (by omega)
      have hnb : nbQ w h q (gC A i) = (((inside w h (Near (gC A i).1 (gC A i).2)).filter fun d => decide (bitQ q d.2.toNat d.1.toNat)).length : Nat) := by rw [nb_inside]; rfl
      have hNb : ∀ d ∈ inside w h (Near (gC A i).1 (gC A i).2), Has w h d.1 d.2 := fun d hd => inside_has hd
      have hN4 := inside_len (w := w) (h := h) (l := Near (gC A i).1 (gC A i).2)
      rw [show (Near (gC A i).1 (gC A i).2).length = 4 from rfl] at hN4
      generalize inside w h (Near (gC A i).1 (gC A i).2) = N at hbs hnb hNb hN4
      repeat' first | ((with_reducible apply WR.c_s (f := 316) (fn := Code.f316)); (iterate 3 exact rfl); exact rfl; (focus ((repeat' first | exact args_nil | apply args_d | exact toD_d rfl | exact rfl); done)); exact hso) | ((with_reducible apply WR.c_o (f := 85) (fn := Code.f85)); (iterate 3 exact rfl); exact rfl; (focus ((repeat' first | exact args_nil | apply args_d | exact toD_d rfl | exact rfl); done)); exact hbs; (first | exact rfl | assumption)) | ((with_reducible first | apply WR.mv | apply WR.le | apply WR.un); exact rfl; exact rfl) | ((with_reducible apply WR.ld); (iterate 3 exact rfl); (first | exact ldC (by first | omega))) | ((with_reducible apply WR.isn); (iterate 3 exact rfl); omega) | (with_reducible first | apply WR.nil | refine andThen_n ?_ | refine W.seq ?_ | refine W.region ?_ | refine W.skip ?_ | refine W.block ?_) | ((with_reducible apply W.condT); exact rfl) | ((with_reducible apply W.condF); exact rfl) | (intro hb; try (exfalso; omega)) | ((with_reducible apply WR.lss); iterate 3 exact rfl)
      (refine (?_ : W _ (Code.loop _) _ _))
      (refine W.loopM [0, 1, 2, 6, 7, 8, 9, 11] [6, 7, 17, 36] [36] (fun ((j, n) : (Nat) × (Int)) => (N.length - j : Nat)) (fun ((j, n) : (Nat) × (Int)) => (j ≤ N.length ∧ n = (((N.take j).filter fun d => decide (bitQ q d.2.toNat d.1.toNat)).length : Nat) ∧ 0 ≤ n ∧ n ≤ j : Prop)) (fun z : (Nat) × (Int) => match z with | (j, n) => [(10, .a (.d (.s (.int .i64 n)))), (12, .a (.d (.s (.int .i64 (j : Nat)))))]) (fun z : (Nat) × (Int) => match z with | (j, n) => []) (0, 0) (⟨by omega, rfl, by omega, by omega⟩) ⟨rfl, rfl, trivial⟩ trivial ⟨np, trivial⟩ ?_)
      rintro ⟨j, n⟩ σ hP hN; dsimp only [setL, putL] at hP ⊢; obtain ⟨n36, hN⟩ := hN
      obtain ⟨hj, hn, hn0, hnj⟩ := hP
      by_cases hjl : j < N.length
      · have hfs := filter_snoc (p := fun d => decide (bitQ q d.2.toNat d.1.toNat)) (gC_get hjl)
        have hHj := hNb _ (gC_mem hjl)
        simp only [Has] at hHj
        have hbit := l07Has_gives q hq (gC N j).1 (gC N j).2 (by omega)
        by_cases hb : bitQ q (gC N j).2.toNat (gC N j).1.toNat
        · rw [decide_eq_true hb] at hbit
          rw [if_pos (by exact decide_eq_true hb)] at hfs
          repeat' first | ((with_reducible apply WR.c_s (f := 439) (fn := Code.f439)); (iterate 3 exact rfl); exact rfl; (focus ((repeat' first | exact args_nil | apply args_d | exact toD_d rfl | exact rfl); done)); exact hbit) | ((with_reducible first | apply WR.mv | apply WR.le); exact rfl; exact rfl) | ((with_reducible apply WR.ld); (iterate 3 exact rfl); (first | exact ldC (by first | omega))) | ((with_reducible apply WR.ad); (iterate 3 exact rfl); (exact i64_in _ (by omega))) | ((with_reducible apply WR.isn); (iterate 3 exact rfl); omega) | (with_reducible first | apply WR.nil | refine andThen_n ?_ | refine inB_n ?_ | refine W.seq ?_ | refine W.region ?_ | refine W.skip ?_ | refine W.block ?_) | ((with_reducible apply W.condT); exact rfl) | (intro hb; try (exfalso; omega)) | ((with_reducible apply WR.lss); iterate 3 exact rfl)
          (refine W.nxt (j + 1, n + 1) (by first | omega | (dsimp only; omega)) ?_ ⟨rfl, rfl, trivial⟩ trivial ⟨rfl, rfl, rfl, rfl, rfl, rfl, rfl, rfl, trivial⟩ ⟨rfl, rfl, rfl, rfl, trivial⟩ ⟨np, trivial⟩); (try dsimp only)
          exact ⟨by omega, by rw [hfs, List.length_append, hn]; simp, by omega, by omega⟩
        · rw [decide_eq_false hb] at hbit
          rw [if_neg (by rw [decide_eq_false hb]; decide), List.append_nil] at hfs
          repeat' first | ((with_reducible apply WR.c_s (f := 439) (fn := Code.f439)); (iterate 3 exact rfl); exact rfl; (focus ((repeat' first | exact args_nil | apply args_d | exact toD_d rfl | exact rfl); done)); exact hbit) | ((with_reducible first | apply WR.mv | apply WR.le); exact rfl; exact rfl) | ((with_reducible apply WR.ld); (iterate 3 exact rfl); (first | exact ldC (by first | omega))) | ((with_reducible apply WR.ad); (iterate 3 exact rfl); (exact i64_in _ (by omega))) | ((with_reducible apply WR.isn); (iterate 3 exact rfl); omega) | (with_reducible first | apply WR.nil | refine andThen_n ?_ | refine inB_n ?_ | refine W.seq ?_ | refine W.region ?_ | refine W.skip ?_ | refine W.block ?_) | ((with_reducible apply W.condT); exact rfl) | ((with_reducible apply W.condF); exact rfl) | (intro hb; try (exfalso; omega)) | ((with_reducible apply WR.lss); iterate 3 exact rfl)
          (refine W.nxt (j + 1, n) (by first | omega | (dsimp only; omega)) ?_ ⟨rfl, rfl, trivial⟩ trivial ⟨rfl, rfl, rfl, rfl, rfl, rfl, rfl, rfl, trivial⟩ ⟨rfl, rfl, rfl, rfl, trivial⟩ ⟨np, trivial⟩); (try dsimp only)
          exact ⟨by omega, by rw [hfs, hn], by omega, by omega⟩
      · rw [List.take_of_length_le (by omega)] at hn
        have hnn : n = nbQ w h q (gC A i) := by rw [hnb, hn]
        by_cases hnd : need ≤ n
        · unfold dayS at hst
          rw [if_pos (by omega)] at hst
          repeat' first | ((with_reducible apply WH.orb); iterate 3 exact rfl) | ((with_reducible first | apply WR.mv | apply WR.le); exact rfl; exact rfl) | ((with_reducible first | apply WH.mv | apply WH.fa | apply WR.lss | apply WR.geq); iterate 3 exact rfl) | ((with_reducible apply WH.ld); (iterate 3 exact rfl); (first | exact ldCx (by first | omega) | exact ldCy (by first | omega) | exact ldR (by omega)); exact rfl) | ((with_reducible apply WR.ad); (iterate 3 exact rfl); (first | exact i64_in _ (by omega) | exact u64_in _ (by omega))) | (with_reducible first | apply WR.nil | refine andThen_n ?_ | refine andThen_x ?_ | refine inB_n ?_ | refine inB_x ?_ | refine W.seq ?_ | refine W.region ?_ | refine W.exit ?_ | apply WH.nil | refine W.draw ?_) | ((with_reducible apply W.condT); exact rfl) | ((with_reducible apply W.condF); exact rfl) | ((with_reducible first | apply WH.isn | apply WH.ia); (iterate 3 exact rfl); omega; exact rfl) | (intro hb; try (exfalso; omega)) | ((with_reducible apply WH.b1s); (iterate 3 exact rfl); omega) | ((with_reducible apply WH.cv); exact rfl; exact rfl; (first | exact i64_in _ (by omega) | exact u64_in _ (by omega))) | ((with_reducible apply WH.st); (iterate 3 exact rfl); exact stR (by omega); exact rfl; exact rfl)
          all_goals first
            | (exfalso; omega)
            | ((refine W.nxt (i + 1, gset out (gC A i).2.toNat (orB (out (gC A i).2.toNat) (2 ^ (gC A i).1.toNat))) (by first | omega | (dsimp only; omega)) ?_ ⟨rfl, trivial⟩ ⟨rfl, trivial⟩ ⟨rfl, rfl, rfl, rfl, rfl, rfl, trivial⟩ ⟨rfl, rfl, trivial⟩ ⟨np, trivial⟩); (try dsimp only)
               exact ⟨by omega, hst.symm⟩)
        · unfold dayS at hst
          rw [if_neg (by omega)] at hst
          repeat' first | ((with_reducible first | apply WR.mv | apply WR.le); exact rfl; exact rfl) | ((with_reducible apply WR.ad); (iterate 3 exact rfl); (exact i64_in _ (by omega))) | (with_reducible first | apply WR.nil | refine andThen_n ?_ | refine andThen_x ?_ | refine inB_n ?_ | refine inB_x ?_ | refine W.seq ?_ | refine W.region ?_ | refine W.skip ?_ | refine W.exit ?_) | ((with_reducible apply W.condF); exact rfl) | (intro hb; try (exfalso; omega)) | ((with_reducible first | apply WR.lss | apply WR.geq); iterate 3 exact rfl)
          all_goals first
            | (exfalso; omega)
            | ((refine W.nxt (i + 1, out) (by first | omega | (dsimp only; omega)) ?_ ⟨rfl, trivial⟩ ⟨rfl, trivial⟩ ⟨rfl, rfl, rfl, rfl, rfl, rfl, trivial⟩ ⟨rfl, rfl, trivial⟩ ⟨np, trivial⟩); (try dsimp only)
               exact ⟨by omega, hst.symm⟩)
    · unfold dayT at hst
      rw [if_neg hS] at hst
      rw [decide_eq_false hS] at hso
      repeat' first | ((with_reducible apply WR.c_s (f := 316) (fn := Code.f316)); (iterate 3 exact rfl); exact rfl; (focus ((repeat' first | exact args_nil | apply args_d | exact toD_d rfl | exact rfl); done)); exact hso) | ((with_reducible first | apply WR.mv | apply WR.le | apply WR.un); exact rfl; exact rfl) | ((with_reducible apply WR.ld); (iterate 3 exact rfl); (first | exact ldC (by first | omega))) | ((with_reducible apply WR.ad); (iterate 3 exact rfl); (exact i64_in _ (by omega))) | ((with_reducible apply WR.isn); (iterate 3 exact rfl); omega) | (with_reducible first | apply WR.nil | refine andThen_n ?_ | refine andThen_x ?_ | refine inB_x ?_ | refine W.seq ?_ | refine W.region ?_ | refine W.skip ?_ | refine W.exit ?_ | refine W.block ?_) | ((with_reducible apply W.condT); exact rfl) | (intro hb; try (exfalso; omega)) | ((with_reducible apply WR.lss); iterate 3 exact rfl)
      (refine W.nxt (i + 1, out) (by first | omega | (dsimp only; omega)) ?_ ⟨rfl, trivial⟩ ⟨rfl, trivial⟩ ⟨rfl, rfl, rfl, rfl, rfl, rfl, trivial⟩ ⟨rfl, rfl, trivial⟩ ⟨np, trivial⟩); (try dsimp only)
      exact ⟨by omega, hst.symm⟩
  · rw [List.take_of_length_le (by omega)] at ho
    rw [hR, ← ho]
    repeat' first | ((with_reducible first | apply WR.mv | apply WR.le); exact rfl; exact rfl) | ((with_reducible apply WR.ld); (iterate 3 exact rfl); (exact loadC_all rowI_len)) | (with_reducible first | apply WR.nil | refine andThen_n ?_ | refine andThen_x ?_ | refine inB_x ?_ | refine W.seq ?_ | refine W.region ?_ | refine W.ret ?_ | refine W.exit ?_) | ((with_reducible apply W.condF); exact rfl) | ((with_reducible apply Done.f); (intro hh hh2; exact (nomatch hh2)); (focus ((repeat' first | exact all_nil | apply all_cons | exact res_cell rfl rfl (by first | exact List.length_replicate .. | exact rowI_len)); done)); (focus ((repeat' first | exact all_nil | apply all_cons | exact retOf_a rfl); done)); exact rfl; (focus ((repeat' first | exact outs_nil | apply outs_d); done))) | (intro hb; try (exfalso; omega)) | ((with_reducible apply WR.lss); iterate 3 exact rfl) | ((with_reducible apply WR.st); (iterate 3 exact rfl); exact storeAll (by first | exact List.length_replicate .. | exact rowI_len) (by first | exact List.length_replicate .. | exact rowI_len))
    rfl
theorem cut_gives (l : IsLawn w h g cs) (hs : 0 ≤ w ∧ w ≤ 10 ∧ h ≤ 10) {q : Nat → Int} (hq : WB q) (row : Nat) (hr : (row : Int) < h) (hoed : Bool) : Gives G 423 [aa cs, aa (wR q), ai .i64 (row : Nat), ab hoed] ⟨[.agg (wR (cutQ w h g row hoed q))], []⟩ := by
  obtain ⟨W0, rfl⟩ : ∃ n : Nat, w = n := ⟨w.toNat, by omega⟩
  obtain ⟨R, hR⟩ : ∃ R, R = cutQ W0 h g row hoed q := ⟨_, rfl⟩
  rw [← hR]
  unfold cutQ at hR
  rw [Int.toNat_natCast] at hR
  refine Gives.by rfl rfl (W.seq ?_)
  repeat' first | ((with_reducible first | apply WR.mv | apply WR.fa); exact rfl; exact rfl) | ((with_reducible apply WR.ld); (iterate 3 exact rfl); (exact lawn_w (by assumption))) | (with_reducible first | apply WR.nil | refine andThen_n ?_ | refine W.seq ?_ | refine W.region ?_ | refine W.block ?_) | ((with_reducible apply WR.bx); exact rfl; exact rfl; exact (by first | exact IsLawn.len (by assumption) | exact rowI_len | exact rfl); exact rfl) | ((with_reducible apply WR.al); exact rfl; exact rfl)
  (refine (?_ : W _ (Code.loop _) _ _))
  (refine W.loopM [2, 3, 4, 5, 8, 12] [4, 8] [10] (fun ((x, k) : (Nat) × (Nat → Int)) => (W0 - x : Nat)) (fun ((x, k) : (Nat) × (Nat → Int)) => (x ≤ W0 ∧ k = cutN W0 h g row hoed q x : Prop)) (fun z : (Nat) × (Nat → Int) => match z with | (x, k) => [(13, .a (.d (.s (.int .i8 (x : Nat)))))]) (fun z : (Nat) × (Nat → Int) => match z with | (x, k) => [(5, .flat false (wR k))]) (0, q) (⟨by omega, rfl⟩) ⟨rfl, trivial⟩ ⟨rfl, trivial⟩ ⟨np, trivial⟩ ?_)
  rintro ⟨x, k⟩ σ hP hN; dsimp only [setL, putL] at hP ⊢; obtain ⟨n10, hN⟩ := hN
  obtain ⟨hx, hk⟩ := hP
  by_cases hxl : x < W0
  · have hst := cutN_succ (w := W0) (h := h) (g := g) row hoed q x
    rw [← hk] at hst
    unfold cutS at hst
    have hgr := grass_gives l (x : Nat) (row : Nat) (.inl ⟨by omega, by omega⟩)
    have hIs : Is W0 h g 0 ((x : Nat) : Int) ((row : Nat) : Int) ↔ g (10 * row + x) = 0 := ⟨fun k => k.2, fun k => ⟨by omega, k⟩⟩
    cases hoed
    · by_cases hg : g (10 * row + x) = 0
      · rw [if_pos (.inr hg)] at hst
        rw [decide_eq_true (hIs.2 hg)] at hgr
        repeat' first | ((with_reducible apply WR.c_s (f := 32) (fn := Code.f32)); (iterate 3 exact rfl); exact rfl; (focus ((repeat' first | exact args_nil | apply args_d | exact toD_d rfl | exact rfl); done)); exact hgr) | ((with_reducible apply WH.clb); iterate 3 exact rfl) | ((with_reducible first | apply WR.mv | apply WR.pk); exact rfl; exact rfl) | ((with_reducible apply WR.ld); (iterate 3 exact rfl); (first | exact ld2 | exact loadC_all (IsLawn.len (by assumption)) | exact ldR (by omega))) | (with_reducible first | apply WR.nil | refine andThen_n ?_ | refine inB_n ?_ | refine W.seq ?_ | refine W.region ?_ | refine W.skip ?_ | refine W.block ?_ | apply WH.nil | refine W.draw ?_) | ((with_reducible apply W.condT); exact rfl) | (intro hb; try (exfalso; omega)) | ((with_reducible apply WR.al); exact rfl; (first | exact rfl | assumption)) | ((with_reducible apply WR.st); (iterate 3 exact rfl); exact st2) | ((with_reducible first | apply WH.mv | apply WR.lss | apply WR.bC); iterate 3 exact rfl) | ((with_reducible apply WH.ia); (iterate 3 exact rfl); omega; exact rfl) | ((with_reducible apply WR.cv); exact rfl; exact rfl; (first | assumption | exact i8_in _ (by omega))) | ((with_reducible apply WR.ad); (iterate 3 exact rfl); (first | assumption | exact i8_in _ (by omega))) | ((with_reducible apply WH.b1s); (iterate 3 exact rfl); omega) | ((with_reducible apply WH.ld); (iterate 3 exact rfl); (first | exact ld2 | exact loadC_all (IsLawn.len (by assumption)) | exact ldR (by omega)); exact rfl) | ((with_reducible apply WH.st); (iterate 3 exact rfl); exact stR (by omega); exact rfl; exact rfl)
        (refine W.nxt (x + 1, gset k row (clB (k row) (2 ^ x))) (by first | omega | (dsimp only; omega)) ?_ ⟨rfl, trivial⟩ ⟨rfl, trivial⟩ ⟨rfl, rfl, rfl, rfl, rfl, rfl, trivial⟩ ⟨rfl, rfl, trivial⟩ ⟨np, trivial⟩); (try dsimp only)
        exact ⟨by omega, hst.symm⟩
      · rw [if_neg (fun k => k.elim (fun e => by cases e) hg)] at hst
        rw [decide_eq_false (fun k => hg (hIs.1 k))] at hgr
        repeat' first | ((with_reducible apply WR.c_s (f := 32) (fn := Code.f32)); (iterate 3 exact rfl); exact rfl; (focus ((repeat' first | exact args_nil | apply args_d | exact toD_d rfl | exact rfl); done)); exact hgr) | ((with_reducible first | apply WR.mv | apply WR.pk); exact rfl; exact rfl) | ((with_reducible apply WR.ld); (iterate 3 exact rfl); (first | exact ld2 | exact loadC_all (IsLawn.len (by assumption)))) | (with_reducible first | apply WR.nil | refine andThen_n ?_ | refine inB_n ?_ | refine W.seq ?_ | refine W.region ?_ | refine W.skip ?_ | refine W.block ?_) | ((with_reducible apply W.condT); exact rfl) | ((with_reducible apply W.condF); exact rfl) | (intro hb; try (exfalso; omega)) | ((with_reducible apply WR.al); exact rfl; (first | exact rfl | assumption)) | ((with_reducible apply WR.st); (iterate 3 exact rfl); exact st2) | ((with_reducible first | apply WR.lss | apply WR.bC); iterate 3 exact rfl) | ((with_reducible apply WR.cv); exact rfl; exact rfl; (first | assumption | exact i8_in _ (by omega))) | ((with_reducible apply WR.ad); (iterate 3 exact rfl); (first | assumption | exact i8_in _ (by omega)))
        (refine W.nxt (x + 1, k) (by first | omega | (dsimp only; omega)) ?_ ⟨rfl, trivial⟩ ⟨rfl, trivial⟩ ⟨rfl, rfl, rfl, rfl, rfl, rfl, trivial⟩ ⟨rfl, rfl, trivial⟩ ⟨np, trivial⟩); (try dsimp only)
        exact ⟨by omega, hst.symm⟩
    · rw [if_pos (.inl rfl)] at hst
      repeat' first | ((with_reducible apply WH.clb); iterate 3 exact rfl) | ((with_reducible first | apply WR.mv | apply WR.pk); exact rfl; exact rfl) | (with_reducible first | apply WR.nil | refine andThen_n ?_ | refine inB_n ?_ | refine W.seq ?_ | refine W.region ?_ | refine W.skip ?_ | refine W.block ?_ | apply WH.nil | refine W.draw ?_) | ((with_reducible apply W.condT); exact rfl) | (intro hb; try (exfalso; omega)) | ((with_reducible apply WR.al); exact rfl; (assumption)) | ((with_reducible apply WR.st); (iterate 3 exact rfl); exact st2) | ((with_reducible first | apply WH.mv | apply WR.lss | apply WR.bC); iterate 3 exact rfl) | ((with_reducible apply WH.ia); (iterate 3 exact rfl); omega; exact rfl) | ((with_reducible apply WR.off); exact rfl) | ((with_reducible apply WR.cv); exact rfl; exact rfl; (first | assumption | exact i8_in _ (by omega))) | ((with_reducible apply WR.ad); (iterate 3 exact rfl); (first | assumption | exact i8_in _ (by omega))) | ((with_reducible apply WH.b1s); (iterate 3 exact rfl); omega) | ((with_reducible apply WH.ld); (iterate 3 exact rfl); (exact ldR (by omega)); exact rfl) | ((with_reducible apply WH.st); (iterate 3 exact rfl); exact stR (by omega); exact rfl; exact rfl)
      (refine W.nxt (x + 1, gset k row (clB (k row) (2 ^ x))) (by first | omega | (dsimp only; omega)) ?_ ⟨rfl, trivial⟩ ⟨rfl, trivial⟩ ⟨rfl, rfl, rfl, rfl, rfl, rfl, trivial⟩ ⟨rfl, rfl, trivial⟩ ⟨np, trivial⟩); (try dsimp only)
      exact ⟨by omega, hst.symm⟩
  · obtain rfl : x = W0 := by omega
    rw [hR, ← hk]
    repeat' first | ((with_reducible apply WR.ld); (iterate 3 exact rfl); (exact loadC_all rowI_len)) | (with_reducible first | apply WR.nil | refine andThen_n ?_ | refine andThen_x ?_ | refine inB_x ?_ | refine W.seq ?_ | refine W.region ?_ | refine W.ret ?_ | refine W.exit ?_) | ((with_reducible apply W.condF); exact rfl) | ((with_reducible apply Done.f); (intro hh hh2; exact (nomatch hh2)); (focus ((repeat' first | exact all_nil | apply all_cons | exact res_cell rfl rfl (by first | exact List.length_replicate .. | exact rowI_len)); done)); (focus ((repeat' first | exact all_nil | apply all_cons | exact retOf_a rfl); done)); exact rfl; (focus ((repeat' first | exact outs_nil | apply outs_d); done))) | (intro hb; try (exfalso; omega)) | ((with_reducible apply WR.st); (iterate 3 exact rfl); exact storeAll (by first | exact List.length_replicate .. | exact rowI_len) (by first | exact List.length_replicate .. | exact rowI_len)) | ((with_reducible apply WR.lss); iterate 3 exact rfl)
    rfl
theorem l07Cut_gives (l : IsLawn w h g cs) (hs : 0 ≤ w ∧ w ≤ 10 ∧ h ≤ 10) {q : Nat → Int} (hq : WB q) (row : Nat) (hr : (row : Int) < h) (hoed : Bool) : Gives G 428 [ar cs, aa (wR q), ai .i64 (row : Nat), ab hoed] ⟨[.agg (wR (cutQ w h g row hoed q))], []⟩ := by
  obtain ⟨W0, rfl⟩ : ∃ n : Nat, w = n := ⟨w.toNat, by omega⟩
  obtain ⟨R, hR⟩ : ∃ R, R = cutQ W0 h g row hoed q := ⟨_, rfl⟩
  rw [← hR]
  unfold cutQ at hR
  rw [Int.toNat_natCast] at hR
  refine Gives.by rfl rfl (W.seq ?_)
  repeat' first | ((with_reducible apply WR.mv); exact rfl; exact rfl) | (with_reducible first | apply WR.nil | refine andThen_n ?_ | refine W.seq ?_ | refine W.region ?_ | refine W.block ?_) | ((with_reducible apply WR.bx); exact rfl; exact rfl; exact (by first | exact rowI_len | exact rfl); exact rfl) | ((with_reducible apply WR.al); exact rfl; exact rfl)
  (refine (?_ : W _ (Code.loop _) _ _))
  (refine W.loopM [0, 2, 3, 5, 8] [8] [] (fun ((x, k) : (Nat) × (Nat → Int)) => (W0 - x : Nat)) (fun ((x, k) : (Nat) × (Nat → Int)) => (x ≤ W0 ∧ k = cutN W0 h g row hoed q x : Prop)) (fun z : (Nat) × (Nat → Int) => match z with | (x, k) => [(9, .a (.d (.s (.int .i8 (x : Nat)))))]) (fun z : (Nat) × (Nat → Int) => match z with | (x, k) => [(5, .flat false (wR k))]) (0, q) (⟨by omega, rfl⟩) ⟨rfl, trivial⟩ ⟨rfl, trivial⟩ trivial ?_)
  rintro ⟨x, k⟩ σ hP hN; dsimp only [setL, putL] at hP ⊢
  obtain ⟨hx, hk⟩ := hP
  by_cases hxl : x < W0
  · have hst := cutN_succ (w := W0) (h := h) (g := g) row hoed q x
    rw [← hk] at hst
    unfold cutS at hst
    cases hoed
    · by_cases hg : g (10 * ((row : Nat) : Int).toNat + ((x : Nat) : Int).toNat) = 0
      · rw [if_pos (.inr hg)] at hst
        repeat' first | ((with_reducible apply WR.clb); iterate 3 exact rfl) | ((with_reducible first | apply WR.mv | apply WR.fa | apply WR.nc | apply WR.pk); exact rfl; exact rfl) | ((with_reducible apply WR.ld); (iterate 3 exact rfl); (first | exact lawn_w (by assumption) | exact lawn_c (by assumption) (by omega) | exact ldR (by omega))) | ((with_reducible apply WR.ldd); exact rfl; exact rfl; (first | exact lawn_w (by assumption) | exact lawn_c (by assumption) (by omega) | exact ldR (by omega))) | ((with_reducible apply WR.ia); (iterate 3 exact rfl); omega) | ((with_reducible first | apply WR.iad | apply WR.b1s); (iterate 3 exact rfl); omega) | (with_reducible first | apply WR.nil | refine andThen_n ?_ | refine inB_n ?_ | refine W.seq ?_ | refine W.region ?_ | refine W.skip ?_ | refine W.block ?_) | ((with_reducible apply W.condT); exact rfl) | (intro hb; try (exfalso; omega)) | ((with_reducible apply WR.st); (iterate 3 exact rfl); exact stR (by omega)) | ((with_reducible first | apply WR.lss | apply WR.eql); iterate 3 exact rfl) | ((with_reducible apply WR.cv); exact rfl; exact rfl; (first | exact i8_in _ (by omega) | exact u64_in _ (by omega))) | ((with_reducible apply WR.ad); (iterate 3 exact rfl); (first | exact i8_in _ (by omega) | exact u64_in _ (by omega)))
        all_goals first
          | exact absurd hg (by assumption)
          | ((refine W.nxt (x + 1, gset k row (clB (k row) (2 ^ x))) (by first | omega | (dsimp only; omega)) ?_ ⟨rfl, trivial⟩ ⟨rfl, trivial⟩ ⟨rfl, rfl, rfl, rfl, rfl, trivial⟩ ⟨rfl, trivial⟩ trivial); (try dsimp only)
             exact ⟨by omega, hst.symm⟩)
      · rw [if_neg (fun k => k.elim (fun e => by cases e) hg)] at hst
        repeat' first | ((with_reducible first | apply WR.mv | apply WR.fa | apply WR.nc | apply WR.pk); exact rfl; exact rfl) | ((with_reducible apply WR.ldd); exact rfl; exact rfl; (first | exact lawn_w (by assumption) | exact lawn_c (by assumption) (by omega))) | ((with_reducible apply WR.iad); (iterate 3 exact rfl); omega) | (with_reducible first | apply WR.nil | refine andThen_n ?_ | refine inB_n ?_ | refine W.seq ?_ | refine W.region ?_ | refine W.skip ?_ | refine W.block ?_) | ((with_reducible apply W.condT); exact rfl) | ((with_reducible apply W.condF); exact rfl) | (intro hb; try (exfalso; omega)) | ((with_reducible first | apply WR.lss | apply WR.eql); iterate 3 exact rfl) | ((with_reducible apply WR.ad); (iterate 3 exact rfl); (exact i8_in _ (by omega)))
        all_goals first
          | exact absurd (by assumption) hg
          | ((refine W.nxt (x + 1, k) (by first | omega | (dsimp only; omega)) ?_ ⟨rfl, trivial⟩ ⟨rfl, trivial⟩ ⟨rfl, rfl, rfl, rfl, rfl, trivial⟩ ⟨rfl, trivial⟩ trivial); (try dsimp only)
             exact ⟨by omega, hst.symm⟩)
    · rw [if_pos (.inl rfl)] at hst
      repeat' first | ((with_reducible apply WR.clb); iterate 3 exact rfl) | ((with_reducible first | apply WR.mv | apply WR.fa | apply WR.nc | apply WR.pk); exact rfl; exact rfl) | ((with_reducible apply WR.off); exact rfl) | ((with_reducible apply WR.ld); (iterate 3 exact rfl); (first | exact lawn_w (by assumption) | exact ldR (by omega))) | ((with_reducible apply WR.ldd); exact rfl; exact rfl; (first | exact lawn_w (by assumption) | exact ldR (by omega))) | ((with_reducible first | apply WR.ia | apply WR.b1s); (iterate 3 exact rfl); omega) | (with_reducible first | apply WR.nil | refine andThen_n ?_ | refine inB_n ?_ | refine W.seq ?_ | refine W.region ?_ | refine W.skip ?_ | refine W.block ?_) | ((with_reducible apply W.condT); exact rfl) | (intro hb; try (exfalso; omega)) | ((with_reducible apply WR.st); (iterate 3 exact rfl); exact stR (by omega)) | ((with_reducible apply WR.lss); iterate 3 exact rfl) | ((with_reducible apply WR.cv); exact rfl; exact rfl; (first | exact i8_in _ (by omega) | exact u64_in _ (by omega))) | ((with_reducible apply WR.ad); (iterate 3 exact rfl); (first | exact i8_in _ (by omega) | exact u64_in _ (by omega)))
      (refine W.nxt (x + 1, gset k row (clB (k row) (2 ^ x))) (by first | omega | (dsimp only; omega)) ?_ ⟨rfl, trivial⟩ ⟨rfl, trivial⟩ ⟨rfl, rfl, rfl, rfl, rfl, trivial⟩ ⟨rfl, trivial⟩ trivial); (try dsimp only)
      exact ⟨by omega, hst.symm⟩
  · obtain rfl : x = W0 := by omega
    rw [hR, ← hk]
    repeat' first | ((with_reducible first | apply WR.mv | apply WR.fa | apply WR.nc); exact rfl; exact rfl) | ((with_reducible apply WR.ld); (iterate 3 exact rfl); (first | exact lawn_w (by assumption) | exact loadC_all rowI_len)) | ((with_reducible apply WR.ldd); exact rfl; exact rfl; (first | exact lawn_w (by assumption) | exact loadC_all rowI_len)) | (with_reducible first | apply WR.nil | refine andThen_n ?_ | refine andThen_x ?_ | refine inB_x ?_ | refine W.seq ?_ | refine W.region ?_ | refine W.ret ?_ | refine W.exit ?_) | ((with_reducible apply W.condF); exact rfl) | ((with_reducible apply Done.f); (intro hh hh2; exact (nomatch hh2)); (focus ((repeat' first | exact all_nil | apply all_cons | exact res_cell rfl rfl (by first | exact List.length_replicate .. | exact rowI_len)); done)); (focus ((repeat' first | exact all_nil | apply all_cons | exact retOf_a rfl); done)); exact rfl; (focus ((repeat' first | exact outs_nil | apply outs_d); done))) | (intro hb; try (exfalso; omega)) | ((with_reducible apply WR.st); (iterate 3 exact rfl); exact storeAll (by first | exact List.length_replicate .. | exact rowI_len) (by first | exact List.length_replicate .. | exact rowI_len)) | ((with_reducible apply WR.lss); iterate 3 exact rfl)
    rfl
end Go.DM
