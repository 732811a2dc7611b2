/- Weeds: the reference's plan, the fewest rows: both sides. -/
import Derived.Test.YtgbifpijjfolbaaGreatK441WeedF
set_option linter.all false
set_option maxHeartbeats 4000000
namespace Go.DM
variable [Tok]
open Go.IntWalk
variable {w h : Int} {g : Nat → Int} {cs : List S}
theorem l07Plan_gives (l : IsLawn w h g cs) (hok : LawnOk w h g) (need : Int) : ∀ (k : Nat), k ≤ 4 → ∀ {q : Nat → Int}, WGood w h g q → Gives G 431 [ar cs, aa (wR q), ai .i64 need, ai .i64 (k : Nat)] (planRes (planQ w h g need k q))
  | 0, _, q, hq => by
    have n1 := l07Count_gives q hq.1
    refine Gives.by rfl rfl (W.seq ?_)
    repeat' first | ((with_reducible apply WR.c_s (f := 429) (fn := Code.f429)); (iterate 3 exact rfl); exact rfl; (focus ((repeat' first | exact args_nil | apply args_d | exact toD_ptr rfl rfl | exact all_nil | apply all_cons | exact rfl); done)); exact n1) | ((with_reducible apply WR.mv); exact rfl; exact rfl) | ((with_reducible apply WR.bs); exact rfl; exact rfl; exact rfl) | (with_reducible first | apply WR.nil | refine andThen_n ?_ | refine andThen_r ?_ | refine W.seq ?_ | refine W.region ?_ | refine W.ret ?_) | ((with_reducible apply W.condT); exact rfl) | ((with_reducible apply Done.f); (intro hh hh2; exact (nomatch hh2)); (focus ((repeat' first | exact all_nil | apply all_cons | exact res_tmp rfl | exact rfl); done)); (focus ((repeat' first | exact all_nil | apply all_cons | exact retOf_s rfl | exact retOf_o rfl rfl (by first | exact rowI_len | exact rfl) | exact rfl); done)); exact rfl; (focus ((repeat' first | exact outs_nil | apply outs_d | exact rfl); done))) | (intro hb; try (exfalso; omega)) | ((with_reducible apply WR.eql); iterate 3 exact rfl) | ((with_reducible apply WR.bx); exact rfl; exact rfl; exact (by first | exact rowI_len | exact rfl); exact rfl)
    all_goals first
      | contradiction
      | rfl
  | k + 1, hk4, q, hq => by
    have hs1 := hok.1
    have hs2 := hok.2.1
    have hd := l07Day_gives l (by omega) hq.1 need
    have hgd := dayQ_good (w := w) (h := h) (g := g) (need := need) (by omega) hq
    have ih := fun (q' : Nat → Int) (hq' : WGood w h g q') => l07Plan_gives l hok need k (by omega) hq'
    obtain ⟨F, hF⟩ : ∃ F : Nat → List Int × Int, F = fun row => planQ w h g need k (cutQ w h g row false (dayQ w h g need q)) := ⟨_, rfl⟩
    have hP : planQ w h g need (k + 1) q = planF F h.toNat := by rw [hF]; rfl
    have hFb : ∀ j, 0 ≤ (F j).2 ∧ (F j).2 ≤ 160 ∧ (F j).1.length = k := fun j => by
      have := planQ_b (w := w) (h := h) (g := g) hs2.1 need k (cutQ w h g j false (dayQ w h g need q))
      rw [hF]; exact ⟨this.1, this.2.1, this.2.2.1⟩
    have hPb := planF_b hFb
    have hFi : ∀ j, planQ w h g need k (cutQ w h g j false (dayQ w h g need q)) = F j := fun j => by rw [hF]
    rw [hP]
    clear hF hP
    generalize dayQ w h g need q = q1 at hd hgd hFi
    unfold planRes at ih ⊢
    refine Gives.by rfl rfl (W.seq ?_)
    repeat' first | ((with_reducible apply WR.c_a (f := 427) (fn := Code.f427)); (iterate 3 exact rfl); exact rfl; (focus ((repeat' first | exact args_nil | apply args_d | exact toD_d rfl | exact toD_ptr rfl rfl | exact rfl); done)); exact hd) | ((with_reducible apply WR.mv); exact rfl; exact rfl) | ((with_reducible apply WR.bs); exact rfl; exact rfl; exact rfl) | (with_reducible first | apply WR.nil | refine andThen_n ?_ | refine W.seq ?_ | refine W.region ?_ | refine W.skip ?_ | refine W.block ?_) | ((with_reducible apply W.condF); exact rfl) | (intro hb; try (exfalso; omega)) | ((with_reducible apply WR.rn1); (iterate 4 exact rfl); exact rfl; exact rfl) | ((with_reducible apply WR.eql); iterate 3 exact rfl) | ((with_reducible apply WR.bx); exact rfl; exact rfl; exact (by first | exact rowI_len | exact rfl); exact rfl) | ((with_reducible apply WR.st); (iterate 3 exact rfl); exact storeAll (by first | exact rowI_len | exact rfl) (by first | exact rowI_len | exact rfl))
    (refine (?_ : W _ (Code.loop _) _ _))
    (refine W.loopM [0, 2, 3, 5] [5] [10, 52, 54, 1041, 2041] (fun ((i, B, m) : (Nat) × (List Int) × (Int)) => (h.toNat - i : Nat)) (fun ((i, B, m) : (Nat) × (List Int) × (Int)) => (i ≤ h.toNat ∧ (B, m) = planF F i : Prop)) (fun z : (Nat) × (List Int) × (Int) => match z with | (i, B, m) => [(10, .a (.sl 10 0 B.length 1)), (11, .a (.d (.s (.int .i64 m)))), (12, .a (.d (.s (.int .i64 (i : Nat)))))]) (fun z : (Nat) × (List Int) × (Int) => match z with | (i, B, m) => [(10, .flat false (encI .i64 B))]) (0, [], -1) (⟨by omega, rfl⟩) ⟨rfl, rfl, rfl, trivial⟩ ⟨rfl, trivial⟩ ⟨np, np, np, np, np, trivial⟩ ?_)
    rintro ⟨i, B, m⟩ σ hP hN; dsimp only [setL, putL] at hP ⊢; obtain ⟨n10, hN⟩ := hN; obtain ⟨n52, hN⟩ := hN; obtain ⟨n54, hN⟩ := hN; obtain ⟨n1041, hN⟩ := hN; obtain ⟨n2041, hN⟩ := hN
    obtain ⟨hi, hbm⟩ := hP
    have hb2 := hPb i
    rw [← hbm] at hb2
    simp only at hb2
    by_cases hil : i < h.toNat
    · have hcut := l07Cut_gives l (by omega) hgd.1 i (by omega) false
      have hgd2 := cutQ_good (w := w) (h := h) (g := g) (by omega) (row := i) (by omega) (hoed := false) hgd
      have hrec := ih _ hgd2
      rw [hFi i] at hrec
      rw [show ((k : Nat) : Int) = ((k + 1 : Nat) : Int) - 1 by omega] at hrec
      have hFbi := hFb i
      have hst := planF_succ F i
      rw [← hbm] at hst
      unfold planS at hst
      generalize F i = p at hrec hFbi hst
      obtain ⟨R, c⟩ := p
      simp only at hrec hFbi hst
      by_cases hc2 : m < 0 ∨ c < m
      · rw [if_pos hc2] at hst
        repeat' first | ((with_reducible apply WR.c_a (f := 428) (fn := Code.f428)); (iterate 3 exact rfl); exact rfl; (focus ((repeat' first | exact args_nil | apply args_d | exact toD_d rfl | exact rfl); done)); exact hcut) | ((with_reducible apply WR.c_os (f := 431) (fn := Code.f431)); (iterate 3 exact rfl); exact rfl; (focus ((repeat' first | exact args_nil | apply args_d | exact toD_d rfl | exact rfl); done)); exact hrec; (first | exact rfl | assumption | (focus ((repeat' first | exact rfl | assumption | (with_reducible apply noPar_set) | ((with_reducible apply noPar_puto); exact rfl) | (with_reducible apply noPar_kill)); done)))) | ((with_reducible apply WR.apL (l := [(i : Int)]) (m := R)); (iterate 3 exact rfl); exact elems_own rfl; (simp only [List.length_cons, List.length_nil]; omega)) | ((with_reducible apply WR.mv); exact rfl; exact rfl) | ((with_reducible first | apply WR.mvt | apply WR.ex | apply WR.pk | apply WR.fa | apply WR.nc); exact rfl; exact rfl) | ((with_reducible apply WR.bsI1); exact rfl; exact rfl; (first | exact rfl | assumption | (focus ((repeat' first | exact rfl | assumption | (with_reducible apply noPar_set) | ((with_reducible apply noPar_puto); exact rfl) | (with_reducible apply noPar_kill)); done)))) | ((with_reducible apply WR.lss); iterate 3 exact rfl) | (with_reducible first | apply WR.nil | refine andThen_n ?_ | refine inB_n ?_ | refine W.seq ?_ | refine W.region ?_ | refine W.skip ?_ | refine W.block ?_) | ((with_reducible apply W.condT); exact rfl) | (intro hb; try (exfalso; omega)) | ((with_reducible apply WR.rn1); (iterate 4 exact rfl); (first | exact rfl | assumption | (focus ((repeat' first | exact rfl | assumption | (with_reducible apply noPar_set) | ((with_reducible apply noPar_puto); exact rfl) | (with_reducible apply noPar_kill)); done))); (first | exact rfl | assumption | (focus ((repeat' first | exact rfl | assumption | (with_reducible apply noPar_set) | ((with_reducible apply noPar_puto); exact rfl) | (with_reducible apply noPar_kill)); done)))) | ((with_reducible apply WR.ld); (iterate 3 exact rfl); (first | exact lawn_h (by assumption) | exact loadC_all rowI_len)) | ((with_reducible apply WR.ldd); exact rfl; exact rfl; (first | exact lawn_h (by assumption) | exact loadC_all rowI_len)) | ((with_reducible apply WR.off); exact rfl) | ((with_reducible apply WR.cv); exact rfl; exact rfl; (first | exact i64_in _ (by omega) | assumption)) | ((with_reducible apply WR.ad); (iterate 3 exact rfl); (first | exact i64_in _ (by omega) | assumption)) | ((with_reducible apply WR.sb); (iterate 3 exact rfl); (first | exact i64_in _ (by omega) | assumption))
        all_goals first
          | (exfalso; omega)
          | ((refine W.nxt (i + 1, [(i : Int)] ++ R, c) (by first | omega | (dsimp only; omega)) ?_ ⟨rfl, rfl, rfl, trivial⟩ ⟨rfl, trivial⟩ ⟨rfl, rfl, rfl, rfl, trivial⟩ ⟨rfl, trivial⟩ ⟨np, np, np, np, np, trivial⟩); (try dsimp only)
             exact ⟨by omega, hst.symm⟩)
      · rw [if_neg hc2] at hst
        repeat' first | ((with_reducible apply WR.c_a (f := 428) (fn := Code.f428)); (iterate 3 exact rfl); exact rfl; (focus ((repeat' first | exact args_nil | apply args_d | exact toD_d rfl | exact rfl); done)); exact hcut) | ((with_reducible apply WR.c_os (f := 431) (fn := Code.f431)); (iterate 3 exact rfl); exact rfl; (focus ((repeat' first | exact args_nil | apply args_d | exact toD_d rfl | exact rfl); done)); exact hrec; (first | exact rfl | assumption)) | ((with_reducible apply WR.mv); exact rfl; exact rfl) | ((with_reducible first | apply WR.mvt | apply WR.ex | apply WR.pk | apply WR.fa | apply WR.nc); exact rfl; exact rfl) | ((with_reducible apply WR.lss); iterate 3 exact rfl) | (with_reducible first | apply WR.nil | refine andThen_n ?_ | refine inB_n ?_ | refine W.seq ?_ | refine W.region ?_ | refine W.skip ?_ | refine W.block ?_) | ((with_reducible apply W.condT); exact rfl) | ((with_reducible apply W.condF); exact rfl) | (intro hb; try (exfalso; omega)) | ((with_reducible apply WR.ld); (iterate 3 exact rfl); (first | exact lawn_h (by assumption) | exact loadC_all rowI_len)) | ((with_reducible apply WR.ldd); exact rfl; exact rfl; (first | exact lawn_h (by assumption) | exact loadC_all rowI_len)) | ((with_reducible apply WR.cv); exact rfl; exact rfl; (first | exact i64_in _ (by omega) | assumption)) | ((with_reducible apply WR.ad); (iterate 3 exact rfl); (first | exact i64_in _ (by omega) | assumption)) | ((with_reducible apply WR.sb); (iterate 3 exact rfl); (first | exact i64_in _ (by omega) | assumption))
        all_goals first
          | (exfalso; omega)
          | ((refine W.nxt (i + 1, B, m) (by first | omega | (dsimp only; omega)) ?_ ⟨rfl, rfl, rfl, trivial⟩ ⟨rfl, trivial⟩ ⟨rfl, rfl, rfl, rfl, trivial⟩ ⟨rfl, trivial⟩ ⟨np, np, np, np, np, trivial⟩); (try dsimp only)
             exact ⟨by omega, hst.symm⟩)
    · obtain rfl : i = h.toNat := by omega
      rw [← hbm]
      repeat' first | ((with_reducible first | apply WR.mv | apply WR.fa | apply WR.nc); exact rfl; exact rfl) | ((with_reducible apply WR.lss); iterate 3 exact rfl) | (with_reducible first | apply WR.nil | refine andThen_n ?_ | refine andThen_x ?_ | refine inB_x ?_ | refine W.seq ?_ | refine W.region ?_ | refine W.ret ?_ | refine W.exit ?_) | ((with_reducible apply W.condF); exact rfl) | ((with_reducible apply Done.f); (intro hh hh2; exact (nomatch hh2)); (focus ((repeat' first | exact all_nil | apply all_cons | exact res_tmp rfl); done)); (focus ((repeat' first | exact all_nil | apply all_cons | exact retOf_s rfl | exact retOf_o rfl rfl (by first | exact (encI_length _ _).trans (Nat.mul_one _).symm)); done)); exact rfl; (focus ((repeat' first | exact outs_nil | apply outs_d); done))) | (intro hb; try (exfalso; omega)) | ((with_reducible apply WR.ldd); exact rfl; exact rfl; (exact lawn_h (by assumption))) | ((with_reducible apply WR.cv); exact rfl; exact rfl; (exact i64_in _ (by omega)))
      rfl
def fewRes (P : List Int × Int) : Res := ⟨[.own P.1.length 1 (encI .i64 P.1), .s (.int .i64 P.2), .s (.int .i64 0)], []⟩
theorem fewestWeeds_gives (l : IsLawn w h g cs) (hok : LawnOk w h g) {q : Nat → Int} (hq : WGood w h g q) (need : Int) (hn : 1 ≤ need ∧ need ≤ 4) (k : Nat) (hk : k ≤ 4) : Gives G 409 [aa cs, aa (wR q), ai .i64 need, ai .i64 (k : Nat)] (fewRes (planQ w h g need k q)) := by
  have hc := weedsCode_gives l hok hq need hn _ (noBad_nil cs)
  have hf := fewest_gives l hok need k hk hq
  unfold fewRes
  unfold planRes at hf
  generalize planQ w h g need k q = P at hf ⊢
  refine Gives.by rfl rfl (W.seq ?_)
  repeat' first | ((with_reducible apply WR.c_s (f := 421) (fn := Code.f421)); (iterate 3 exact rfl); exact rfl; (focus ((repeat' first | exact args_nil | apply args_d | exact toD_d rfl | exact all_nil | apply all_cons | exact rfl); done)); exact hc) | ((with_reducible apply WR.c_os (f := 430) (fn := Code.f430)); (iterate 3 exact rfl); exact rfl; (focus ((repeat' first | exact args_nil | apply args_d | exact toD_d rfl | exact all_nil | apply all_cons | exact rfl); done)); exact hf; exact rfl) | ((with_reducible apply WR.c_p (f := 56) (fn := Code.f56)); (iterate 3 exact rfl); exact rfl; (focus ((repeat' first | exact args_nil | apply args_d | exact toD_d rfl | exact all_nil | apply all_cons | exact rfl); done)); exact within_gives _ _ _) | ((with_reducible apply WR.mv); exact rfl; exact rfl) | ((with_reducible first | apply WR.mvt | apply WR.ex | apply WR.un | apply WR.pk); exact rfl; exact rfl) | ((with_reducible apply WR.ld); (iterate 3 exact rfl); (first | exact loadC_all (IsLawn.len (by assumption)) | exact loadC_all rowI_len)) | (with_reducible first | apply WR.nil | refine andThen_n ?_ | refine W.seq ?_ | refine W.region ?_ | refine W.skip ?_ | refine W.ret ?_) | ((with_reducible apply W.condF); exact rfl) | ((with_reducible apply Done.f); (intro hh hh2; exact (nomatch hh2)); (focus ((repeat' first | exact all_nil | apply all_cons | exact res_tmp rfl | exact rfl); done)); (focus ((repeat' first | exact all_nil | apply all_cons | exact retOf_s rfl | exact retOf_o rfl rfl (by first | exact (encI_length _ _).trans (Nat.mul_one _).symm | exact IsLawn.len (by assumption) | exact rowI_len | exact rfl) | exact rfl); done)); exact rfl; (focus ((repeat' first | exact outs_nil | apply outs_d | exact rfl); done))) | (intro hb; try (exfalso; omega)) | ((with_reducible apply WR.bx); exact rfl; exact rfl; exact (by first | exact (encI_length _ _).trans (Nat.mul_one _).symm | exact IsLawn.len (by assumption) | exact rowI_len | exact rfl); exact rfl) | ((with_reducible first | apply WR.eql | apply WR.neq); iterate 3 exact rfl)
  all_goals first
    | rfl
    | (exfalso; omega)
theorem fewestWeedsS_gives (l : IsLawn w h g cs) (hok : LawnOk w h g) {q : Nat → Int} (hq : WGood w h g q) (need : Int) (hn : 1 ≤ need ∧ need ≤ 4) (k : Nat) (hk : k ≤ 4) : Gives G 410 [aa cs, aa (wR q), ai .i64 need, ai .i64 (k : Nat)] (fewRes (planQ w h g need k q)) := by
  have hnd := l07Need_gives need hn
  have hc := l07Asked_gives l hok hq
  have hf := l07Plan_gives l hok need k hk hq
  unfold fewRes
  unfold planRes at hf
  generalize planQ w h g need k q = P at hf ⊢
  refine Gives.by rfl rfl (W.seq ?_)
  repeat' first | ((with_reducible apply WR.c_s (f := 424) (fn := Code.f424)); (iterate 3 exact rfl); exact rfl; (focus ((repeat' first | exact args_nil | apply args_d | exact toD_d rfl | exact toD_ptr rfl rfl | exact all_nil | apply all_cons | exact rfl); done)); exact hnd) | ((with_reducible apply WR.c_s (f := 426) (fn := Code.f426)); (iterate 3 exact rfl); exact rfl; (focus ((repeat' first | exact args_nil | apply args_d | exact toD_d rfl | exact toD_ptr rfl rfl | exact all_nil | apply all_cons | exact rfl); done)); exact hc) | ((with_reducible apply WR.c_os (f := 431) (fn := Code.f431)); (iterate 3 exact rfl); exact rfl; (focus ((repeat' first | exact args_nil | apply args_d | exact toD_d rfl | exact toD_ptr rfl rfl | exact all_nil | apply all_cons | exact rfl); done)); exact hf; exact rfl) | ((with_reducible apply WR.c_p (f := 92) (fn := Code.f92)); (iterate 3 exact rfl); exact rfl; (focus ((repeat' first | exact args_nil | apply args_d | exact toD_d rfl | exact toD_ptr rfl rfl | exact all_nil | apply all_cons | exact rfl); done)); exact l00In_gives _ _ _) | ((with_reducible apply WR.mv); exact rfl; exact rfl) | ((with_reducible first | apply WR.mvt | apply WR.ex | apply WR.pk); exact rfl; exact rfl) | (with_reducible first | apply WR.nil | refine andThen_n ?_ | refine W.seq ?_ | refine W.region ?_ | refine W.skip ?_ | refine W.ret ?_) | ((with_reducible apply W.condF); exact rfl) | ((with_reducible apply Done.f); (intro hh hh2; exact (nomatch hh2)); (focus ((repeat' first | exact all_nil | apply all_cons | exact res_tmp rfl | exact rfl); done)); (focus ((repeat' first | exact all_nil | apply all_cons | exact retOf_s rfl | exact retOf_o rfl rfl (by first | exact (encI_length _ _).trans (Nat.mul_one _).symm | exact IsLawn.len (by assumption) | exact rowI_len | exact rfl) | exact rfl); done)); exact rfl; (focus ((repeat' first | exact outs_nil | apply outs_d | exact rfl); done))) | (intro hb; try (exfalso; omega)) | ((with_reducible apply WR.bx); exact rfl; exact rfl; exact (by first | exact (encI_length _ _).trans (Nat.mul_one _).symm | exact IsLawn.len (by assumption) | exact rowI_len | exact rfl); exact rfl) | ((with_reducible apply WR.neq); iterate 3 exact rfl) | ((with_reducible apply WR.ld); (iterate 3 exact rfl); (exact loadC_all rowI_len))
  all_goals first
    | rfl
    | (exfalso; omega)
end Go.DM
