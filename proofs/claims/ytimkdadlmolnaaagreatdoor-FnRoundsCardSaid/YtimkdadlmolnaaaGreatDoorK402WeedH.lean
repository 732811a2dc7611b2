/- Weeds: the reference's plan, the fewest rows: both sides. -/
import Derived.Test.YtimkdadlmolnaaaGreatDoorK402WeedF
set_option linter.unusedSectionVars false
set_option linter.unusedSimpArgs false
set_option linter.unusedVariables false
set_option maxHeartbeats 4000000
namespace Go.DM
variable [Tok]
open Go.IntWalk
variable {w h : Int} {g : Nat → Int} {cs : List S}
theorem l07Plan_gives (l : IsLawn w h g cs) (hok : LawnOk w h g) (need : Int) : ∀ (k : Nat), k ≤ 4 → ∀ {q : Nat → Int}, WGood w h g q → Gives G 431 [ar cs, aa (wR q), ai .i64 need, ai .i64 (k : Nat)] (planRes (planQ w h g need k q))
  | 0, _, q, hq => by
    have n1 := l07Count_gives q hq.1
    refine Gives.by rfl rfl (W.seq ?_)
    repeat' first | ((with_reducible apply WR.c_s (f := 429) (fn := Code.f429)); exact rfl; exact rfl; exact rfl; (exact rfl); (focus ((repeat' first | exact args_nil | apply args_d | exact toD_ptr rfl rfl | exact all_nil | apply all_cons | exact rfl); done)); exact n1) | ((with_reducible apply WR.mv); exact rfl; exact rfl) | ((with_reducible apply WR.bs); exact rfl; exact rfl; (exact rfl)) | ((with_reducible apply WR.nil)) | (with_reducible refine andThen_n ?_) | (with_reducible refine andThen_r ?_) | (with_reducible refine W.seq ?_) | (with_reducible refine W.region ?_) | (with_reducible refine W.ret ?_) | ((with_reducible apply W.condT); exact rfl) | ((with_reducible apply Done.f); (intro hh hh2; exact (nomatch hh2)); (focus ((repeat' first | exact all_nil | apply all_cons | exact res_tmp rfl | exact rfl); done)); (focus ((repeat' first | exact all_nil | apply all_cons | exact retOf_s rfl | exact retOf_o rfl rfl (by first | exact rowI_len | exact rfl) | exact rfl); done)); exact rfl; (focus ((repeat' first | exact outs_nil | apply outs_d | exact rfl); done))) | (intro hb; try (exfalso; omega)) | ((with_reducible apply WR.eql); exact rfl; exact rfl; exact rfl) | ((with_reducible apply WR.bx); exact rfl; exact rfl; exact (by first | exact rowI_len | exact rfl); (exact rfl))
    all_goals first
      | contradiction
      | rfl
  | k + 1, hk4, q, hq => by
    have hs1 := hok.1
    have hs2 := hok.2.1
    have hd := l07Day_gives l (by omega) hq.1 need
    have hgd := dayQ_good (w := w) (h := h) (g := g) (need := need) (by omega) hq
    have ih := fun (q' : Nat → Int) (hq' : WGood w h g q') => l07Plan_gives l hok need k (by omega) hq'
    obtain ⟨F, hF⟩ : ∃ F : Nat → List Int × Int, F = fun row => planQ w h g need k (cutQ w h g row false (dayQ w h g need q)) := ⟨_, rfl⟩
    have hP : planQ w h g need (k + 1) q = planF F h.toNat := by rw [hF]; rfl
    have hFb : ∀ j, 0 ≤ (F j).2 ∧ (F j).2 ≤ 160 ∧ (F j).1.length = k := fun j => by
      have := planQ_b (w := w) (h := h) (g := g) hs2.1 need k (cutQ w h g j false (dayQ w h g need q))
      rw [hF]; exact ⟨this.1, this.2.1, this.2.2.1⟩
    have hPb := planF_b hFb
    have hFi : ∀ j, planQ w h g need k (cutQ w h g j false (dayQ w h g need q)) = F j := fun j => by rw [hF]
    rw [hP]
    clear hF hP
    generalize dayQ w h g need q = q1 at hd hgd hFi
    unfold planRes at ih ⊢
    refine Gives.by rfl rfl (W.seq ?_)
    repeat' first | ((with_reducible apply WR.c_a (f := 427) (fn := Code.f427)); exact rfl; exact rfl; exact rfl; (exact rfl); (focus ((repeat' first | exact args_nil | apply args_d | exact toD_d rfl | exact toD_ptr rfl rfl | exact rfl); done)); exact hd) | ((with_reducible apply WR.mv); exact rfl; exact rfl) | ((with_reducible apply WR.bs); exact rfl; exact rfl; (exact rfl)) | ((with_reducible apply WR.nil)) | (with_reducible refine andThen_n ?_) | (with_reducible refine W.seq ?_) | (with_reducible refine W.region ?_) | (with_reducible refine W.skip ?_) | (with_reducible refine W.block ?_) | ((with_reducible apply W.condF); exact rfl) | (intro hb; try (exfalso; omega)) | ((with_reducible apply WR.rn1); exact rfl; exact rfl; exact rfl; exact rfl; (exact rfl); (exact rfl)) | ((with_reducible apply WR.eql); exact rfl; exact rfl; exact rfl) | ((with_reducible apply WR.bx); exact rfl; exact rfl; exact (by first | exact rowI_len | exact rfl); (exact rfl)) | ((with_reducible apply WR.st); exact rfl; exact rfl; exact rfl; exact storeAll (by first | exact rowI_len | exact rfl) (by first | exact rowI_len | exact rfl))
    (refine (?_ : W _ (Code.loop _) _ _))
    (refine W.loopM [0, 2, 3, 5] [5] [10, 52, 54, 1041, 2041] (fun zz : (Nat) × (List Int) × (Int) => match zz with | (i, B, m) => (h.toNat - i : Nat)) (fun zz : (Nat) × (List Int) × (Int) => match zz with | (i, B, m) => (i ≤ h.toNat ∧ (B, m) = planF F i : Prop)) (fun zz : (Nat) × (List Int) × (Int) => match zz with | (i, B, m) => [(10, .a (.sl 10 0 B.length 1)), (11, .a (.d (.s (.int .i64 m)))), (12, .a (.d (.s (.int .i64 (i : Nat)))))]) (fun zz : (Nat) × (List Int) × (Int) => match zz with | (i, B, m) => [(10, .flat false (encI .i64 B))]) (0, [], -1) (⟨by omega, rfl⟩) ⟨rfl, rfl, rfl, trivial⟩ ⟨rfl, trivial⟩ ⟨np, np, np, np, np, trivial⟩ ?_)
    rintro ⟨i, B, m⟩ σ hP hN; dsimp only [setL, putL] at hP ⊢; obtain ⟨n10, hN⟩ := hN; obtain ⟨n52, hN⟩ := hN; obtain ⟨n54, hN⟩ := hN; obtain ⟨n1041, hN⟩ := hN; obtain ⟨n2041, hN⟩ := hN
    obtain ⟨hi, hbm⟩ := hP
    have hb2 := hPb i
    rw [← hbm] at hb2
    simp only at hb2
    by_cases hil : i < h.toNat
    · have hcut := l07Cut_gives l (by omega) hgd.1 i (by omega) false
      have hgd2 := cutQ_good (w := w) (h := h) (g := g) (by omega) (row := i) (by omega) (hoed := false) hgd
      have hrec := ih _ hgd2
      rw [hFi i] at hrec
      rw [show ((k : Nat) : Int) = ((k + 1 : Nat) : Int) - 1 by omega] at hrec
      have hFbi := hFb i
      have hst := planF_succ F i
      rw [← hbm] at hst
      unfold planS at hst
      generalize F i = p at hrec hFbi hst
      obtain ⟨R, c⟩ := p
      simp only at hrec hFbi hst
      by_cases hc2 : m < 0 ∨ c < m
      · rw [if_pos hc2] at hst
        repeat' first | ((with_reducible apply WR.c_a (f := 428) (fn := Code.f428)); exact rfl; exact rfl; exact rfl; (exact rfl); (focus ((repeat' first | exact args_nil | apply args_d | exact toD_d rfl | exact rfl); done)); exact hcut) | ((with_reducible apply WR.c_os (f := 431) (fn := Code.f431)); exact rfl; exact rfl; exact rfl; (exact rfl); (focus ((repeat' first | exact args_nil | apply args_d | exact toD_d rfl | exact rfl); done)); exact hrec; (first | exact rfl | assumption | (focus ((repeat' first | exact rfl | assumption | (with_reducible apply noPar_set) | ((with_reducible apply noPar_puto); exact rfl) | (with_reducible apply noPar_kill)); done)))) | ((with_reducible apply WR.apL (l := [(i : Int)]) (m := R)); exact rfl; exact rfl; exact rfl; exact elems_own rfl; (simp only [List.length_cons, List.length_nil]; omega)) | ((with_reducible apply WR.mv); exact rfl; exact rfl) | ((with_reducible apply WR.mvt); exact rfl; exact rfl) | ((with_reducible apply WR.bsI1); exact rfl; exact rfl; (first | exact rfl | assumption | (focus ((repeat' first | exact rfl | assumption | (with_reducible apply noPar_set) | ((with_reducible apply noPar_puto); exact rfl) | (with_reducible apply noPar_kill)); done)))) | ((with_reducible apply WR.lss); exact rfl; exact rfl; exact rfl) | ((with_reducible apply WR.nil)) | (with_reducible refine andThen_n ?_) | (with_reducible refine inB_n ?_) | (with_reducible refine W.seq ?_) | (with_reducible refine W.region ?_) | (with_reducible refine W.skip ?_) | (with_reducible refine W.block ?_) | ((with_reducible apply W.condT); exact rfl) | (intro hb; try (exfalso; omega)) | ((with_reducible apply WR.rn1); exact rfl; exact rfl; exact rfl; exact rfl; (first | exact rfl | assumption | (focus ((repeat' first | exact rfl | assumption | (with_reducible apply noPar_set) | ((with_reducible apply noPar_puto); exact rfl) | (with_reducible apply noPar_kill)); done))); (first | exact rfl | assumption | (focus ((repeat' first | exact rfl | assumption | (with_reducible apply noPar_set) | ((with_reducible apply noPar_puto); exact rfl) | (with_reducible apply noPar_kill)); done)))) | ((with_reducible apply WR.ld); exact rfl; exact rfl; exact rfl; (first | exact lawn_h (by assumption) | exact loadC_all rowI_len)) | ((with_reducible apply WR.ldd); exact rfl; exact rfl; (first | exact lawn_h (by assumption) | exact loadC_all rowI_len)) | ((with_reducible apply WR.ex); exact rfl; exact rfl) | ((with_reducible apply WR.off); exact rfl) | ((with_reducible apply WR.cv); exact rfl; exact rfl; (first | exact i64_in _ (by omega) | assumption)) | ((with_reducible apply WR.ad); exact rfl; exact rfl; exact rfl; (first | exact i64_in _ (by omega) | assumption)) | ((with_reducible apply WR.sb); exact rfl; exact rfl; exact rfl; (first | exact i64_in _ (by omega) | assumption)) | ((with_reducible apply WR.pk); exact rfl; exact rfl) | ((with_reducible apply WR.fa); exact rfl; exact rfl) | ((with_reducible apply WR.nc); exact rfl; exact rfl)
        all_goals first
          | (exfalso; omega)
          | ((refine W.nxt (i + 1, [(i : Int)] ++ R, c) (by first | omega | (dsimp only; omega)) ?_ ⟨rfl, rfl, rfl, trivial⟩ ⟨rfl, trivial⟩ ⟨rfl, rfl, rfl, rfl, trivial⟩ ⟨rfl, trivial⟩ ⟨np, np, np, np, np, trivial⟩); (try dsimp only)
             exact ⟨by omega, hst.symm⟩)
      · rw [if_neg hc2] at hst
        repeat' first | ((with_reducible apply WR.c_a (f := 428) (fn := Code.f428)); exact rfl; exact rfl; exact rfl; (exact rfl); (focus ((repeat' first | exact args_nil | apply args_d | exact toD_d rfl | exact rfl); done)); exact hcut) | ((with_reducible apply WR.c_os (f := 431) (fn := Code.f431)); exact rfl; exact rfl; exact rfl; (exact rfl); (focus ((repeat' first | exact args_nil | apply args_d | exact toD_d rfl | exact rfl); done)); exact hrec; (first | exact rfl | assumption)) | ((with_reducible apply WR.mv); exact rfl; exact rfl) | ((with_reducible apply WR.mvt); exact rfl; exact rfl) | ((with_reducible apply WR.lss); exact rfl; exact rfl; exact rfl) | ((with_reducible apply WR.nil)) | (with_reducible refine andThen_n ?_) | (with_reducible refine inB_n ?_) | (with_reducible refine W.seq ?_) | (with_reducible refine W.region ?_) | (with_reducible refine W.skip ?_) | (with_reducible refine W.block ?_) | ((with_reducible apply W.condT); exact rfl) | ((with_reducible apply W.condF); exact rfl) | (intro hb; try (exfalso; omega)) | ((with_reducible apply WR.ld); exact rfl; exact rfl; exact rfl; (first | exact lawn_h (by assumption) | exact loadC_all rowI_len)) | ((with_reducible apply WR.ldd); exact rfl; exact rfl; (first | exact lawn_h (by assumption) | exact loadC_all rowI_len)) | ((with_reducible apply WR.ex); exact rfl; exact rfl) | ((with_reducible apply WR.cv); exact rfl; exact rfl; (first | exact i64_in _ (by omega) | assumption)) | ((with_reducible apply WR.ad); exact rfl; exact rfl; exact rfl; (first | exact i64_in _ (by omega) | assumption)) | ((with_reducible apply WR.sb); exact rfl; exact rfl; exact rfl; (first | exact i64_in _ (by omega) | assumption)) | ((with_reducible apply WR.pk); exact rfl; exact rfl) | ((with_reducible apply WR.fa); exact rfl; exact rfl) | ((with_reducible apply WR.nc); exact rfl; exact rfl)
        all_goals first
          | (exfalso; omega)
          | ((refine W.nxt (i + 1, B, m) (by first | omega | (dsimp only; omega)) ?_ ⟨rfl, rfl, rfl, trivial⟩ ⟨rfl, trivial⟩ ⟨rfl, rfl, rfl, rfl, trivial⟩ ⟨rfl, trivial⟩ ⟨np, np, np, np, np, trivial⟩); (try dsimp only)
             exact ⟨by omega, hst.symm⟩)
    · obtain rfl : i = h.toNat := by omega
      rw [← hbm]
      repeat' first | ((with_reducible apply WR.mv); exact rfl; exact rfl) | ((with_reducible apply WR.lss); exact rfl; exact rfl; exact rfl) | ((with_reducible apply WR.nil)) | (with_reducible refine andThen_n ?_) | (with_reducible refine andThen_x ?_) | (with_reducible refine inB_x ?_) | (with_reducible refine W.seq ?_) | (with_reducible refine W.region ?_) | (with_reducible refine W.ret ?_) | (with_reducible refine W.exit ?_) | ((with_reducible apply W.condF); exact rfl) | ((with_reducible apply Done.f); (intro hh hh2; exact (nomatch hh2)); (focus ((repeat' first | exact all_nil | apply all_cons | exact res_tmp rfl); done)); (focus ((repeat' first | exact all_nil | apply all_cons | exact retOf_s rfl | exact retOf_o rfl rfl (by first | exact (encI_length _ _).trans (Nat.mul_one _).symm)); done)); exact rfl; (focus ((repeat' first | exact outs_nil | apply outs_d); done))) | (intro hb; try (exfalso; omega)) | ((with_reducible apply WR.ldd); exact rfl; exact rfl; (first | exact lawn_h (by assumption))) | ((with_reducible apply WR.cv); exact rfl; exact rfl; (first | exact i64_in _ (by omega))) | ((with_reducible apply WR.fa); exact rfl; exact rfl) | ((with_reducible apply WR.nc); exact rfl; exact rfl)
      rfl
def fewRes (P : List Int × Int) : Res := ⟨[.own P.1.length 1 (encI .i64 P.1), .s (.int .i64 P.2), .s (.int .i64 0)], []⟩
theorem fewestWeeds_gives (l : IsLawn w h g cs) (hok : LawnOk w h g) {q : Nat → Int} (hq : WGood w h g q) (need : Int) (hn : 1 ≤ need ∧ need ≤ 4) (k : Nat) (hk : k ≤ 4) : Gives G 409 [aa cs, aa (wR q), ai .i64 need, ai .i64 (k : Nat)] (fewRes (planQ w h g need k q)) := by
  have hc := weedsCode_gives l hok hq need hn _ (noBad_nil cs)
  have hf := fewest_gives l hok need k hk hq
  unfold fewRes
  unfold planRes at hf
  generalize planQ w h g need k q = P at hf ⊢
  refine Gives.by rfl rfl (W.seq ?_)
  repeat' first | ((with_reducible apply WR.c_s (f := 421) (fn := Code.f421)); exact rfl; exact rfl; exact rfl; (exact rfl); (focus ((repeat' first | exact args_nil | apply args_d | exact toD_d rfl | exact all_nil | apply all_cons | exact rfl); done)); exact hc) | ((with_reducible apply WR.c_os (f := 430) (fn := Code.f430)); exact rfl; exact rfl; exact rfl; (exact rfl); (focus ((repeat' first | exact args_nil | apply args_d | exact toD_d rfl | exact all_nil | apply all_cons | exact rfl); done)); exact hf; (exact rfl)) | ((with_reducible apply WR.c_p (f := 56) (fn := Code.f56)); exact rfl; exact rfl; exact rfl; (exact rfl); (focus ((repeat' first | exact args_nil | apply args_d | exact toD_d rfl | exact all_nil | apply all_cons | exact rfl); done)); exact within_gives _ _ _) | ((with_reducible apply WR.mv); exact rfl; exact rfl) | ((with_reducible apply WR.mvt); exact rfl; exact rfl) | ((with_reducible apply WR.ld); exact rfl; exact rfl; exact rfl; (first | exact loadC_all (IsLawn.len (by assumption)) | exact loadC_all rowI_len)) | ((with_reducible apply WR.nil)) | (with_reducible refine andThen_n ?_) | (with_reducible refine W.seq ?_) | (with_reducible refine W.region ?_) | (with_reducible refine W.skip ?_) | (with_reducible refine W.ret ?_) | ((with_reducible apply W.condF); exact rfl) | ((with_reducible apply Done.f); (intro hh hh2; exact (nomatch hh2)); (focus ((repeat' first | exact all_nil | apply all_cons | exact res_tmp rfl | exact rfl); done)); (focus ((repeat' first | exact all_nil | apply all_cons | exact retOf_s rfl | exact retOf_o rfl rfl (by first | exact (encI_length _ _).trans (Nat.mul_one _).symm | exact IsLawn.len (by assumption) | exact rowI_len | exact rfl) | exact rfl); done)); exact rfl; (focus ((repeat' first | exact outs_nil | apply outs_d | exact rfl); done))) | (intro hb; try (exfalso; omega)) | ((with_reducible apply WR.bx); exact rfl; exact rfl; exact (by first | exact (encI_length _ _).trans (Nat.mul_one _).symm | exact IsLawn.len (by assumption) | exact rowI_len | exact rfl); (exact rfl)) | ((with_reducible apply WR.ex); exact rfl; exact rfl) | ((with_reducible apply WR.eql); exact rfl; exact rfl; exact rfl) | ((with_reducible apply WR.neq); exact rfl; exact rfl; exact rfl) | ((with_reducible apply WR.un); exact rfl; exact rfl) | ((with_reducible apply WR.pk); exact rfl; exact rfl)
  all_goals first
    | rfl
    | (exfalso; omega)
theorem fewestWeedsS_gives (l : IsLawn w h g cs) (hok : LawnOk w h g) {q : Nat → Int} (hq : WGood w h g q) (need : Int) (hn : 1 ≤ need ∧ need ≤ 4) (k : Nat) (hk : k ≤ 4) : Gives G 410 [aa cs, aa (wR q), ai .i64 need, ai .i64 (k : Nat)] (fewRes (planQ w h g need k q)) := by
  have hnd := l07Need_gives need hn
  have hc := l07Asked_gives l hok hq
  have hf := l07Plan_gives l hok need k hk hq
  unfold fewRes
  unfold planRes at hf
  generalize planQ w h g need k q = P at hf ⊢
  refine Gives.by rfl rfl (W.seq ?_)
  repeat' first | ((with_reducible apply WR.c_s (f := 424) (fn := Code.f424)); exact rfl; exact rfl; exact rfl; (exact rfl); (focus ((repeat' first | exact args_nil | apply args_d | exact toD_d rfl | exact toD_ptr rfl rfl | exact all_nil | apply all_cons | exact rfl); done)); exact hnd) | ((with_reducible apply WR.c_s (f := 426) (fn := Code.f426)); exact rfl; exact rfl; exact rfl; (exact rfl); (focus ((repeat' first | exact args_nil | apply args_d | exact toD_d rfl | exact toD_ptr rfl rfl | exact all_nil | apply all_cons | exact rfl); done)); exact hc) | ((with_reducible apply WR.c_os (f := 431) (fn := Code.f431)); exact rfl; exact rfl; exact rfl; (exact rfl); (focus ((repeat' first | exact args_nil | apply args_d | exact toD_d rfl | exact toD_ptr rfl rfl | exact all_nil | apply all_cons | exact rfl); done)); exact hf; (exact rfl)) | ((with_reducible apply WR.c_p (f := 92) (fn := Code.f92)); exact rfl; exact rfl; exact rfl; (exact rfl); (focus ((repeat' first | exact args_nil | apply args_d | exact toD_d rfl | exact toD_ptr rfl rfl | exact all_nil | apply all_cons | exact rfl); done)); exact l00In_gives _ _ _) | ((with_reducible apply WR.mv); exact rfl; exact rfl) | ((with_reducible apply WR.mvt); exact rfl; exact rfl) | ((with_reducible apply WR.nil)) | (with_reducible refine andThen_n ?_) | (with_reducible refine W.seq ?_) | (with_reducible refine W.region ?_) | (with_reducible refine W.skip ?_) | (with_reducible refine W.ret ?_) | ((with_reducible apply W.condF); exact rfl) | ((with_reducible apply Done.f); (intro hh hh2; exact (nomatch hh2)); (focus ((repeat' first | exact all_nil | apply all_cons | exact res_tmp rfl | exact rfl); done)); (focus ((repeat' first | exact all_nil | apply all_cons | exact retOf_s rfl | exact retOf_o rfl rfl (by first | exact (encI_length _ _).trans (Nat.mul_one _).symm | exact IsLawn.len (by assumption) | exact rowI_len | exact rfl) | exact rfl); done)); exact rfl; (focus ((repeat' first | exact outs_nil | apply outs_d | exact rfl); done))) | (intro hb; try (exfalso; omega)) | ((with_reducible apply WR.bx); exact rfl; exact rfl; exact (by first | exact (encI_length _ _).trans (Nat.mul_one _).symm | exact IsLawn.len (by assumption) | exact rowI_len | exact rfl); (exact rfl)) | ((with_reducible apply WR.ex); exact rfl; exact rfl) | ((with_reducible apply WR.neq); exact rfl; exact rfl; exact rfl) | ((with_reducible apply WR.ld); exact rfl; exact rfl; exact rfl; (first | exact loadC_all rowI_len)) | ((with_reducible apply WR.pk); exact rfl; exact rfl)
  all_goals first
    | rfl
    | (exfalso; omega)
theorem firstF_hit {f : Nat → Option (List Int)} {i : Nat} {l : List Int} (hi : firstF f i = none) (hl : f i = some l) : ∀ n, i < n → firstF f n = some ((i : Int) :: l)
  | 0, hn => by omega
  | n + 1, hn => by
    by_cases e : i = n
    · subst e
      simp only [firstF, hi, hl, Option.map_some]
    · have := firstF_hit hi hl n (by omega)
      simp only [firstF, this]
theorem firstF_miss {f : Nat → Option (List Int)} {i : Nat} (hi : firstF f i = none) (hl : f i = none) : firstF f (i + 1) = none := by
  simp only [firstF, hi, hl, Option.map_none]
def fcRes (z : Ret) (o : Option (List Int)) : Res := match o with
  | some l => ⟨[.own l.length 1 (encI .i64 l), .s (.bool true)], []⟩
  | none => ⟨[z, .s (.bool false)], []⟩
def zRet (k : Nat) : Ret := if k = 0 then .own 0 1 (encI .i64 []) else .s .nils
theorem firstCuts_gives (l : IsLawn w h g cs) (hok : LawnOk w h g) (need bound : Int) : ∀ (k : Nat), k ≤ 4 → ∀ {q : Nat → Int}, WGood w h g q → Gives G 434 [aa cs, aa (wR q), ai .i64 need, ai .i64 (k : Nat), ai .i64 bound] (fcRes (zRet k) (underQ w h g need bound k q))
  | 0, _, q, hq => by
    have n1 := count_gives q hq.1
    by_cases hb : cntQ q ≤ bound
    · rw [underQ, if_pos hb]
      refine Gives.by rfl rfl (W.seq ?_)
      repeat' first | ((with_reducible apply WR.c_s (f := 350) (fn := Code.f350)); exact rfl; exact rfl; exact rfl; (exact rfl); (focus ((repeat' first | exact args_nil | apply args_d | exact toD_d rfl | exact all_nil | apply all_cons | exact rfl); done)); exact n1) | ((with_reducible apply WR.mv); exact rfl; exact rfl) | ((with_reducible apply WR.ld); exact rfl; exact rfl; exact rfl; (first | exact loadC_all rowI_len)) | ((with_reducible apply WR.nil)) | (with_reducible refine andThen_n ?_) | (with_reducible refine andThen_r ?_) | (with_reducible refine W.seq ?_) | (with_reducible refine W.region ?_) | (with_reducible refine W.ret ?_) | ((with_reducible apply W.condT); exact rfl) | ((with_reducible apply Done.f); (intro hh hh2; exact (nomatch hh2)); (focus ((repeat' first | exact all_nil | apply all_cons | exact res_tmp rfl | exact rfl); done)); (focus ((repeat' first | exact all_nil | apply all_cons | exact retOf_s rfl | exact retOf_o rfl rfl (by first | exact IsLawn.len (by assumption) | exact rowI_len | exact rfl) | exact rfl); done)); exact rfl; (focus ((repeat' first | exact outs_nil | apply outs_d | exact rfl); done))) | (intro hb; try (exfalso; omega)) | ((with_reducible apply WR.bx); exact rfl; exact rfl; exact (by first | exact IsLawn.len (by assumption) | exact rowI_len | exact rfl); (exact rfl)) | ((with_reducible apply WR.bs); exact rfl; exact rfl; (exact rfl)) | ((with_reducible apply WR.leq); exact rfl; exact rfl; exact rfl) | ((with_reducible apply WR.eql); exact rfl; exact rfl; exact rfl)
      all_goals first
        | rfl
        | contradiction
    · rw [underQ, if_neg hb]
      refine Gives.by rfl rfl (W.seq ?_)
      repeat' first | ((with_reducible apply WR.c_s (f := 350) (fn := Code.f350)); exact rfl; exact rfl; exact rfl; (exact rfl); (focus ((repeat' first | exact args_nil | apply args_d | exact toD_d rfl | exact all_nil | apply all_cons | exact rfl); done)); exact n1) | ((with_reducible apply WR.mv); exact rfl; exact rfl) | ((with_reducible apply WR.ld); exact rfl; exact rfl; exact rfl; (first | exact loadC_all rowI_len)) | ((with_reducible apply WR.nil)) | (with_reducible refine andThen_n ?_) | (with_reducible refine andThen_r ?_) | (with_reducible refine W.seq ?_) | (with_reducible refine W.region ?_) | (with_reducible refine W.ret ?_) | ((with_reducible apply W.condT); exact rfl) | ((with_reducible apply Done.f); (intro hh hh2; exact (nomatch hh2)); (focus ((repeat' first | exact all_nil | apply all_cons | exact res_tmp rfl | exact rfl); done)); (focus ((repeat' first | exact all_nil | apply all_cons | exact retOf_s rfl | exact retOf_o rfl rfl (by first | exact IsLawn.len (by assumption) | exact rowI_len | exact rfl) | exact rfl); done)); exact rfl; (focus ((repeat' first | exact outs_nil | apply outs_d | exact rfl); done))) | (intro hb; try (exfalso; omega)) | ((with_reducible apply WR.bx); exact rfl; exact rfl; exact (by first | exact IsLawn.len (by assumption) | exact rowI_len | exact rfl); (exact rfl)) | ((with_reducible apply WR.bs); exact rfl; exact rfl; (exact rfl)) | ((with_reducible apply WR.leq); exact rfl; exact rfl; exact rfl) | ((with_reducible apply WR.eql); exact rfl; exact rfl; exact rfl)
      all_goals first
        | rfl
        | contradiction
  | k + 1, hk4, q, hq => by
    have hs1 := hok.1
    have hs2 := hok.2.1
    have hd := spread_gives l (by omega) hq.1 need
    have hgd := dayQ_good (w := w) (h := h) (g := g) (need := need) (by omega) hq
    have ih := fun (q' : Nat → Int) (hq' : WGood w h g q') => firstCuts_gives l hok need bound k (by omega) hq'
    obtain ⟨F, hF⟩ : ∃ F : Nat → Option (List Int), F = fun row => underQ w h g need bound k (cutQ w h g row false (dayQ w h g need q)) := ⟨_, rfl⟩
    have hP : underQ w h g need bound (k + 1) q = firstF F h.toNat := by rw [hF]; rfl
    have hFl : ∀ j x, F j = some x → x.length = k := fun j x hx => by
      rw [hF] at hx; exact underQ_len need bound k _ x hx
    have hFi : ∀ j, underQ w h g need bound k (cutQ w h g j false (dayQ w h g need q)) = F j := fun j => by rw [hF]
    rw [hP]
    clear hF hP
    generalize dayQ w h g need q = q1 at hd hgd hFi
    refine Gives.by rfl rfl (W.seq ?_)
    repeat' first | ((with_reducible apply WR.c_a (f := 422) (fn := Code.f422)); exact rfl; exact rfl; exact rfl; (exact rfl); (focus ((repeat' first | exact args_nil | apply args_d | exact toD_d rfl | exact rfl); done)); exact hd) | ((with_reducible apply WR.mv); exact rfl; exact rfl) | ((with_reducible apply WR.ld); exact rfl; exact rfl; exact rfl; (first | exact lawn_h (by assumption) | exact loadC_all (IsLawn.len (by assumption)) | exact loadC_all rowI_len)) | ((with_reducible apply WR.nil)) | (with_reducible refine andThen_n ?_) | (with_reducible refine W.seq ?_) | (with_reducible refine W.region ?_) | (with_reducible refine W.skip ?_) | (with_reducible refine W.block ?_) | ((with_reducible apply W.condF); exact rfl) | (intro hb; try (exfalso; omega)) | ((with_reducible apply WR.bx); exact rfl; exact rfl; exact (by first | exact IsLawn.len (by assumption) | exact rowI_len | exact rfl); (exact rfl)) | ((with_reducible apply WR.eql); exact rfl; exact rfl; exact rfl) | ((with_reducible apply WR.cv); exact rfl; exact rfl; (first | exact i64_in _ (by omega))) | ((with_reducible apply WR.fa); exact rfl; exact rfl) | ((with_reducible apply WR.st); exact rfl; exact rfl; exact rfl; exact storeAll (by first | exact IsLawn.len (by assumption) | exact rowI_len | exact rfl) (by first | exact IsLawn.len (by assumption) | exact rowI_len | exact rfl))
    (refine (?_ : W _ (Code.loop _) _ _))
    (refine W.loopM [2, 3, 4, 5, 6, 28] [5, 6] [47, 49, 1042] (fun i : (Nat) => (h.toNat - i : Nat)) (fun i : (Nat) => (i ≤ h.toNat ∧ firstF F i = none : Prop)) (fun i : (Nat) => [(29, .a (.d (.s (.int .i64 (i : Nat)))))]) (fun i : (Nat) => []) 0 (⟨by omega, rfl⟩) ⟨rfl, trivial⟩ trivial ⟨np, np, np, trivial⟩ ?_)
    rintro i σ hP hN; dsimp only [setL, putL] at hP ⊢; obtain ⟨n47, hN⟩ := hN; obtain ⟨n49, hN⟩ := hN; obtain ⟨n1042, hN⟩ := hN
    obtain ⟨hi, hno⟩ := hP
    by_cases hil : i < h.toNat
    · have hcut := cut_gives l (by omega) hgd.1 i (by omega) false
      have hgd2 := cutQ_good (w := w) (h := h) (g := g) (by omega) (row := i) (by omega) (hoed := false) hgd
      have hrec := ih _ hgd2
      rw [hFi i] at hrec
      rw [show ((k : Nat) : Int) = ((k + 1 : Nat) : Int) - 1 by omega] at hrec
      cases hFx : F i with
      | some R =>
        have hRl := hFl i R hFx
        have hres := firstF_hit hno hFx h.toNat hil
        rw [hFx] at hrec
        simp only [fcRes] at hrec
        rw [hres]
        repeat' first | ((with_reducible apply WH.c_a (f := 423) (fn := Code.f423)); exact rfl; exact rfl; exact rfl; (exact rfl); (focus ((repeat' first | exact args_nil | apply args_d | exact toD_d rfl | exact all_nil | apply all_cons | exact rfl); done)); exact hcut; exact rfl) | ((with_reducible apply WH.c_os (f := 434) (fn := Code.f434)); exact rfl; exact rfl; exact rfl; (exact rfl); (focus ((repeat' first | exact args_nil | apply args_d | exact toD_d rfl | exact all_nil | apply all_cons | exact rfl); done)); exact hrec; (first | exact rfl | assumption | (focus ((repeat' first | exact rfl | assumption | (with_reducible apply noPar_set) | ((with_reducible apply noPar_puto); exact rfl) | (with_reducible apply noPar_kill)); done))); exact rfl; exact rfl) | ((with_reducible apply WR.apL (l := [(i : Int)]) (m := R)); exact rfl; exact rfl; exact rfl; exact elems_own rfl; (simp only [List.length_cons, List.length_nil]; omega)) | ((with_reducible apply WR.mv); exact rfl; exact rfl) | ((with_reducible apply WH.mv); exact rfl; exact rfl; exact rfl) | ((with_reducible apply WH.mvt); exact rfl; exact rfl; exact rfl) | ((with_reducible apply WR.nil)) | (with_reducible refine andThen_n ?_) | (with_reducible refine andThen_r ?_) | (with_reducible refine inB_r ?_) | (with_reducible refine W.seq ?_) | (with_reducible refine W.region ?_) | (with_reducible refine W.skip ?_) | (with_reducible refine W.ret ?_) | (with_reducible refine W.block ?_) | ((with_reducible apply W.condT); exact rfl) | ((with_reducible apply Done.f); (intro hh hh2; exact (nomatch hh2)); (focus ((repeat' first | exact all_nil | apply all_cons | exact res_tmp rfl | exact rfl); done)); (focus ((repeat' first | exact all_nil | apply all_cons | exact retOf_s rfl | exact retOf_o rfl rfl (by first | exact (encI_length _ _).trans (Nat.mul_one _).symm | assumption | exact rfl) | exact rfl); done)); exact rfl; (focus ((repeat' first | exact outs_nil | apply outs_d | exact rfl); done))) | ((with_reducible apply WH.ld); exact rfl; exact rfl; exact rfl; (first | exact loadC_all (IsLawn.len (by assumption)) | exact loadC_all rowI_len); exact rfl) | ((with_reducible apply WH.nil)) | (with_reducible refine W.draw ?_) | (intro hb; try (exfalso; omega)) | ((with_reducible apply WR.bsI1); exact rfl; exact rfl; (first | exact rfl | assumption | (focus ((repeat' first | exact rfl | assumption | (with_reducible apply noPar_set) | ((with_reducible apply noPar_puto); exact rfl) | (with_reducible apply noPar_kill)); done)))) | ((with_reducible apply WH.ex); exact rfl; exact rfl; exact rfl) | ((with_reducible apply WR.lss); exact rfl; exact rfl; exact rfl) | ((with_reducible apply WH.sb); exact rfl; exact rfl; exact rfl; (first | exact i64_in _ (by omega) | assumption))
        rfl
      | none =>
        have hres := firstF_miss hno hFx
        rw [hFx] at hrec
        cases k with
        | zero =>
          simp only [fcRes, zRet, if_pos] at hrec
          repeat' first | ((with_reducible apply WH.c_a (f := 423) (fn := Code.f423)); exact rfl; exact rfl; exact rfl; (exact rfl); (focus ((repeat' first | exact args_nil | apply args_d | exact toD_d rfl | exact rfl); done)); exact hcut; exact rfl) | ((with_reducible apply WH.c_os (f := 434) (fn := Code.f434)); exact rfl; exact rfl; exact rfl; (exact rfl); (focus ((repeat' first | exact args_nil | apply args_d | exact toD_d rfl | exact rfl); done)); exact hrec; (first | exact rfl | assumption); exact rfl; exact rfl) | ((with_reducible apply WR.mv); exact rfl; exact rfl) | ((with_reducible apply WH.mv); exact rfl; exact rfl; exact rfl) | ((with_reducible apply WH.mvt); exact rfl; exact rfl; exact rfl) | ((with_reducible apply WR.nil)) | (with_reducible refine andThen_n ?_) | (with_reducible refine inB_n ?_) | (with_reducible refine W.seq ?_) | (with_reducible refine W.region ?_) | (with_reducible refine W.skip ?_) | (with_reducible refine W.block ?_) | ((with_reducible apply W.condT); exact rfl) | ((with_reducible apply W.condF); exact rfl) | ((with_reducible apply WH.ld); exact rfl; exact rfl; exact rfl; (first | exact loadC_all (IsLawn.len (by assumption)) | exact loadC_all rowI_len); exact rfl) | ((with_reducible apply WH.nil)) | (with_reducible refine W.draw ?_) | (intro hb; try (exfalso; omega)) | ((with_reducible apply WH.ex); exact rfl; exact rfl; exact rfl) | ((with_reducible apply WR.lss); exact rfl; exact rfl; exact rfl) | ((with_reducible apply WR.ad); exact rfl; exact rfl; exact rfl; (first | exact i64_in _ (by omega) | assumption)) | ((with_reducible apply WH.sb); exact rfl; exact rfl; exact rfl; (first | exact i64_in _ (by omega) | assumption))
          (refine W.nxt (i + 1) (by first | omega | (dsimp only; omega)) ?_ ⟨rfl, trivial⟩ trivial ⟨rfl, rfl, rfl, rfl, rfl, rfl, trivial⟩ ⟨rfl, rfl, trivial⟩ ⟨np, np, np, trivial⟩); (try dsimp only)
          exact ⟨by omega, hres⟩
        | succ k =>
          simp only [fcRes, zRet] at hrec
          rw [if_neg (by omega)] at hrec
          repeat' first | ((with_reducible apply WH.c_a (f := 423) (fn := Code.f423)); exact rfl; exact rfl; exact rfl; (exact rfl); (focus ((repeat' first | exact args_nil | apply args_d | exact toD_d rfl | exact rfl); done)); exact hcut; exact rfl) | ((with_reducible apply WH.c_ss (f := 434) (fn := Code.f434)); exact rfl; exact rfl; exact rfl; (exact rfl); (focus ((repeat' first | exact args_nil | apply args_d | exact toD_d rfl | exact rfl); done)); exact hrec; exact rfl) | ((with_reducible apply WR.mv); exact rfl; exact rfl) | ((with_reducible apply WH.mv); exact rfl; exact rfl; exact rfl) | ((with_reducible apply WH.mvt); exact rfl; exact rfl; exact rfl) | ((with_reducible apply WR.nil)) | (with_reducible refine andThen_n ?_) | (with_reducible refine inB_n ?_) | (with_reducible refine W.seq ?_) | (with_reducible refine W.region ?_) | (with_reducible refine W.skip ?_) | (with_reducible refine W.block ?_) | ((with_reducible apply W.condT); exact rfl) | ((with_reducible apply W.condF); exact rfl) | ((with_reducible apply WH.ld); exact rfl; exact rfl; exact rfl; (first | exact loadC_all (IsLawn.len (by assumption)) | exact loadC_all rowI_len); exact rfl) | ((with_reducible apply WH.nil)) | (with_reducible refine W.draw ?_) | (intro hb; try (exfalso; omega)) | ((with_reducible apply WH.ex); exact rfl; exact rfl; exact rfl) | ((with_reducible apply WR.lss); exact rfl; exact rfl; exact rfl) | ((with_reducible apply WR.ad); exact rfl; exact rfl; exact rfl; (first | exact i64_in _ (by omega))) | ((with_reducible apply WH.sb); exact rfl; exact rfl; exact rfl; (first | exact i64_in _ (by omega)))
          (refine W.nxt (i + 1) (by first | omega | (dsimp only; omega)) ?_ ⟨rfl, trivial⟩ trivial ⟨rfl, rfl, rfl, rfl, rfl, rfl, trivial⟩ ⟨rfl, rfl, trivial⟩ ⟨np, np, np, trivial⟩); (try dsimp only)
          exact ⟨by omega, hres⟩
    · obtain rfl : i = h.toNat := by omega
      rw [hno]
      repeat' first | ((with_reducible apply WR.mv); exact rfl; exact rfl) | ((with_reducible apply WR.nil)) | (with_reducible refine andThen_n ?_) | (with_reducible refine andThen_x ?_) | (with_reducible refine inB_x ?_) | (with_reducible refine W.seq ?_) | (with_reducible refine W.region ?_) | (with_reducible refine W.ret ?_) | (with_reducible refine W.exit ?_) | ((with_reducible apply W.condF); exact rfl) | ((with_reducible apply Done.f); (intro hh hh2; exact (nomatch hh2)); (focus ((repeat' first | exact all_nil | apply all_cons | exact res_tmp rfl); done)); (focus ((repeat' first | exact all_nil | apply all_cons | exact retOf_s rfl); done)); exact rfl; (focus ((repeat' first | exact outs_nil | apply outs_d); done))) | (intro hb; try (exfalso; omega)) | ((with_reducible apply WR.lss); exact rfl; exact rfl; exact rfl)
      rfl
theorem l07Under_gives (l : IsLawn w h g cs) (hok : LawnOk w h g) (need bound : Int) : ∀ (k : Nat), k ≤ 4 → ∀ {q : Nat → Int}, WGood w h g q → Gives G 435 [ar cs, aa (wR q), ai .i64 need, ai .i64 bound, ai .i64 (k : Nat)] (fcRes (.own 0 1 (encI .i64 [])) (underQ w h g need bound k q))
  | 0, _, q, hq => by
    have n1 := l07Count_gives q hq.1
    by_cases hb : cntQ q ≤ bound
    · rw [underQ, if_pos hb]
      refine Gives.by rfl rfl (W.seq ?_)
      repeat' first | ((with_reducible apply WR.c_s (f := 429) (fn := Code.f429)); exact rfl; exact rfl; exact rfl; (exact rfl); (focus ((repeat' first | exact args_nil | apply args_d | exact toD_ptr rfl rfl | exact all_nil | apply all_cons | exact rfl); done)); exact n1) | ((with_reducible apply WR.mv); exact rfl; exact rfl) | ((with_reducible apply WR.bs); exact rfl; exact rfl; (exact rfl)) | ((with_reducible apply WR.nil)) | (with_reducible refine andThen_n ?_) | (with_reducible refine andThen_r ?_) | (with_reducible refine W.seq ?_) | (with_reducible refine W.region ?_) | (with_reducible refine W.ret ?_) | ((with_reducible apply W.condT); exact rfl) | ((with_reducible apply Done.f); (intro hh hh2; exact (nomatch hh2)); (focus ((repeat' first | exact all_nil | apply all_cons | exact res_tmp rfl | exact rfl); done)); (focus ((repeat' first | exact all_nil | apply all_cons | exact retOf_s rfl | exact retOf_o rfl rfl (by first | exact rowI_len | exact rfl) | exact rfl); done)); exact rfl; (focus ((repeat' first | exact outs_nil | apply outs_d | exact rfl); done))) | (intro hb; try (exfalso; omega)) | ((with_reducible apply WR.leq); exact rfl; exact rfl; exact rfl) | ((with_reducible apply WR.eql); exact rfl; exact rfl; exact rfl) | ((with_reducible apply WR.bx); exact rfl; exact rfl; exact (by first | exact rowI_len | exact rfl); (exact rfl))
      all_goals first
        | rfl
        | contradiction
    · rw [underQ, if_neg hb]
      refine Gives.by rfl rfl (W.seq ?_)
      repeat' first | ((with_reducible apply WR.c_s (f := 429) (fn := Code.f429)); exact rfl; exact rfl; exact rfl; (exact rfl); (focus ((repeat' first | exact args_nil | apply args_d | exact toD_ptr rfl rfl | exact all_nil | apply all_cons | exact rfl); done)); exact n1) | ((with_reducible apply WR.mv); exact rfl; exact rfl) | ((with_reducible apply WR.bs); exact rfl; exact rfl; (exact rfl)) | ((with_reducible apply WR.nil)) | (with_reducible refine andThen_n ?_) | (with_reducible refine andThen_r ?_) | (with_reducible refine W.seq ?_) | (with_reducible refine W.region ?_) | (with_reducible refine W.ret ?_) | ((with_reducible apply W.condT); exact rfl) | ((with_reducible apply Done.f); (intro hh hh2; exact (nomatch hh2)); (focus ((repeat' first | exact all_nil | apply all_cons | exact res_tmp rfl | exact rfl); done)); (focus ((repeat' first | exact all_nil | apply all_cons | exact retOf_s rfl | exact retOf_o rfl rfl (by first | exact rowI_len | exact rfl) | exact rfl); done)); exact rfl; (focus ((repeat' first | exact outs_nil | apply outs_d | exact rfl); done))) | (intro hb; try (exfalso; omega)) | ((with_reducible apply WR.leq); exact rfl; exact rfl; exact rfl) | ((with_reducible apply WR.eql); exact rfl; exact rfl; exact rfl) | ((with_reducible apply WR.bx); exact rfl; exact rfl; exact (by first | exact rowI_len | exact rfl); (exact rfl))
      all_goals first
        | rfl
        | contradiction
  | k + 1, hk4, q, hq => by
    have hs1 := hok.1
    have hs2 := hok.2.1
    have hd := l07Day_gives l (by omega) hq.1 need
    have hgd := dayQ_good (w := w) (h := h) (g := g) (need := need) (by omega) hq
    have ih := fun (q' : Nat → Int) (hq' : WGood w h g q') => l07Under_gives l hok need bound k (by omega) hq'
    obtain ⟨F, hF⟩ : ∃ F : Nat → Option (List Int), F = fun row => underQ w h g need bound k (cutQ w h g row false (dayQ w h g need q)) := ⟨_, rfl⟩
    have hP : underQ w h g need bound (k + 1) q = firstF F h.toNat := by rw [hF]; rfl
    have hFl : ∀ j x, F j = some x → x.length = k := fun j x hx => by
      rw [hF] at hx; exact underQ_len need bound k _ x hx
    have hFi : ∀ j, underQ w h g need bound k (cutQ w h g j false (dayQ w h g need q)) = F j := fun j => by rw [hF]
    rw [hP]
    clear hF hP
    generalize dayQ w h g need q = q1 at hd hgd hFi
    refine Gives.by rfl rfl (W.seq ?_)
    repeat' first | ((with_reducible apply WR.c_a (f := 427) (fn := Code.f427)); exact rfl; exact rfl; exact rfl; (exact rfl); (focus ((repeat' first | exact args_nil | apply args_d | exact toD_d rfl | exact toD_ptr rfl rfl | exact rfl); done)); exact hd) | ((with_reducible apply WR.mv); exact rfl; exact rfl) | ((with_reducible apply WR.nil)) | (with_reducible refine andThen_n ?_) | (with_reducible refine W.seq ?_) | (with_reducible refine W.region ?_) | (with_reducible refine W.skip ?_) | (with_reducible refine W.block ?_) | ((with_reducible apply W.condF); exact rfl) | (intro hb; try (exfalso; omega)) | ((with_reducible apply WR.eql); exact rfl; exact rfl; exact rfl) | ((with_reducible apply WR.bx); exact rfl; exact rfl; exact (by first | exact rowI_len | exact rfl); (exact rfl)) | ((with_reducible apply WR.st); exact rfl; exact rfl; exact rfl; exact storeAll (by first | exact rowI_len | exact rfl) (by first | exact rowI_len | exact rfl))
    (refine (?_ : W _ (Code.loop _) _ _))
    (refine W.loopM [0, 2, 3, 4, 6] [6] [48, 50, 51, 1043] (fun i : (Nat) => (h.toNat - i : Nat)) (fun i : (Nat) => (i ≤ h.toNat ∧ firstF F i = none : Prop)) (fun i : (Nat) => [(12, .a (.d (.s (.int .i64 (i : Nat)))))]) (fun i : (Nat) => []) 0 (⟨by omega, rfl⟩) ⟨rfl, trivial⟩ trivial ⟨np, np, np, np, trivial⟩ ?_)
    rintro i σ hP hN; dsimp only [setL, putL] at hP ⊢; obtain ⟨n48, hN⟩ := hN; obtain ⟨n50, hN⟩ := hN; obtain ⟨n51, hN⟩ := hN; obtain ⟨n1043, hN⟩ := hN
    obtain ⟨hi, hno⟩ := hP
    by_cases hil : i < h.toNat
    · have hcut := l07Cut_gives l (by omega) hgd.1 i (by omega) false
      have hgd2 := cutQ_good (w := w) (h := h) (g := g) (by omega) (row := i) (by omega) (hoed := false) hgd
      have hrec := ih _ hgd2
      rw [hFi i] at hrec
      rw [show ((k : Nat) : Int) = ((k + 1 : Nat) : Int) - 1 by omega] at hrec
      cases hFx : F i with
      | some R =>
        have hRl := hFl i R hFx
        have hres := firstF_hit hno hFx h.toNat hil
        rw [hFx] at hrec
        simp only [fcRes] at hrec
        rw [hres]
        repeat' first | ((with_reducible apply WR.c_a (f := 428) (fn := Code.f428)); exact rfl; exact rfl; exact rfl; (exact rfl); (focus ((repeat' first | exact args_nil | apply args_d | exact toD_d rfl | exact all_nil | apply all_cons | exact rfl); done)); exact hcut) | ((with_reducible apply WR.c_os (f := 435) (fn := Code.f435)); exact rfl; exact rfl; exact rfl; (exact rfl); (focus ((repeat' first | exact args_nil | apply args_d | exact toD_d rfl | exact all_nil | apply all_cons | exact rfl); done)); exact hrec; (first | exact rfl | assumption | (focus ((repeat' first | exact rfl | assumption | (with_reducible apply noPar_set) | ((with_reducible apply noPar_puto); exact rfl) | (with_reducible apply noPar_kill)); done)))) | ((with_reducible apply WR.apL (l := [(i : Int)]) (m := R)); exact rfl; exact rfl; exact rfl; exact elems_own rfl; (simp only [List.length_cons, List.length_nil]; omega)) | ((with_reducible apply WR.mv); exact rfl; exact rfl) | ((with_reducible apply WR.mvt); exact rfl; exact rfl) | ((with_reducible apply WR.bsI1); exact rfl; exact rfl; (first | exact rfl | assumption | (focus ((repeat' first | exact rfl | assumption | (with_reducible apply noPar_set) | ((with_reducible apply noPar_puto); exact rfl) | (with_reducible apply noPar_kill)); done)))) | ((with_reducible apply WR.nil)) | (with_reducible refine andThen_n ?_) | (with_reducible refine andThen_r ?_) | (with_reducible refine inB_r ?_) | (with_reducible refine W.seq ?_) | (with_reducible refine W.region ?_) | (with_reducible refine W.skip ?_) | (with_reducible refine W.ret ?_) | (with_reducible refine W.block ?_) | ((with_reducible apply W.condT); exact rfl) | ((with_reducible apply Done.f); (intro hh hh2; exact (nomatch hh2)); (focus ((repeat' first | exact all_nil | apply all_cons | exact res_tmp rfl | exact rfl); done)); (focus ((repeat' first | exact all_nil | apply all_cons | exact retOf_s rfl | exact retOf_o rfl rfl (by first | exact (encI_length _ _).trans (Nat.mul_one _).symm | assumption | exact rfl) | exact rfl); done)); exact rfl; (focus ((repeat' first | exact outs_nil | apply outs_d | exact rfl); done))) | (intro hb; try (exfalso; omega)) | ((with_reducible apply WR.ld); exact rfl; exact rfl; exact rfl; (first | exact lawn_h (by assumption) | exact loadC_all rowI_len)) | ((with_reducible apply WR.ldd); exact rfl; exact rfl; (first | exact lawn_h (by assumption) | exact loadC_all rowI_len)) | ((with_reducible apply WR.ex); exact rfl; exact rfl) | ((with_reducible apply WR.lss); exact rfl; exact rfl; exact rfl) | ((with_reducible apply WR.cv); exact rfl; exact rfl; (first | exact i64_in _ (by omega) | assumption)) | ((with_reducible apply WR.sb); exact rfl; exact rfl; exact rfl; (first | exact i64_in _ (by omega) | assumption)) | ((with_reducible apply WR.fa); exact rfl; exact rfl) | ((with_reducible apply WR.nc); exact rfl; exact rfl)
        rfl
      | none =>
        have hres := firstF_miss hno hFx
        rw [hFx] at hrec
        simp only [fcRes] at hrec
        repeat' first | ((with_reducible apply WR.c_a (f := 428) (fn := Code.f428)); exact rfl; exact rfl; exact rfl; (exact rfl); (focus ((repeat' first | exact args_nil | apply args_d | exact toD_d rfl | exact rfl); done)); exact hcut) | ((with_reducible apply WR.c_os (f := 435) (fn := Code.f435)); exact rfl; exact rfl; exact rfl; (exact rfl); (focus ((repeat' first | exact args_nil | apply args_d | exact toD_d rfl | exact rfl); done)); exact hrec; (first | exact rfl | assumption)) | ((with_reducible apply WR.mv); exact rfl; exact rfl) | ((with_reducible apply WR.mvt); exact rfl; exact rfl) | ((with_reducible apply WR.nil)) | (with_reducible refine andThen_n ?_) | (with_reducible refine inB_n ?_) | (with_reducible refine W.seq ?_) | (with_reducible refine W.region ?_) | (with_reducible refine W.skip ?_) | (with_reducible refine W.block ?_) | ((with_reducible apply W.condT); exact rfl) | ((with_reducible apply W.condF); exact rfl) | (intro hb; try (exfalso; omega)) | ((with_reducible apply WR.ld); exact rfl; exact rfl; exact rfl; (first | exact lawn_h (by assumption) | exact loadC_all rowI_len)) | ((with_reducible apply WR.ldd); exact rfl; exact rfl; (first | exact lawn_h (by assumption) | exact loadC_all rowI_len)) | ((with_reducible apply WR.ex); exact rfl; exact rfl) | ((with_reducible apply WR.lss); exact rfl; exact rfl; exact rfl) | ((with_reducible apply WR.cv); exact rfl; exact rfl; (first | exact i64_in _ (by omega) | assumption)) | ((with_reducible apply WR.ad); exact rfl; exact rfl; exact rfl; (first | exact i64_in _ (by omega) | assumption)) | ((with_reducible apply WR.sb); exact rfl; exact rfl; exact rfl; (first | exact i64_in _ (by omega) | assumption)) | ((with_reducible apply WR.fa); exact rfl; exact rfl) | ((with_reducible apply WR.nc); exact rfl; exact rfl)
        (refine W.nxt (i + 1) (by first | omega | (dsimp only; omega)) ?_ ⟨rfl, trivial⟩ trivial ⟨rfl, rfl, rfl, rfl, rfl, trivial⟩ ⟨rfl, trivial⟩ ⟨np, np, np, np, trivial⟩); (try dsimp only)
        exact ⟨by omega, hres⟩
    · obtain rfl : i = h.toNat := by omega
      rw [hno]
      repeat' first | ((with_reducible apply WR.mv); exact rfl; exact rfl) | ((with_reducible apply WR.bs); exact rfl; exact rfl; (first | exact rfl | assumption)) | ((with_reducible apply WR.nil)) | (with_reducible refine andThen_n ?_) | (with_reducible refine andThen_x ?_) | (with_reducible refine inB_x ?_) | (with_reducible refine W.seq ?_) | (with_reducible refine W.region ?_) | (with_reducible refine W.ret ?_) | (with_reducible refine W.exit ?_) | ((with_reducible apply W.condF); exact rfl) | ((with_reducible apply Done.f); (intro hh hh2; exact (nomatch hh2)); (focus ((repeat' first | exact all_nil | apply all_cons | exact res_tmp rfl | exact rfl); done)); (focus ((repeat' first | exact all_nil | apply all_cons | exact retOf_s rfl | exact retOf_o rfl rfl (by first | assumption | exact rfl) | exact rfl); done)); exact rfl; (focus ((repeat' first | exact outs_nil | apply outs_d | exact rfl); done))) | (intro hb; try (exfalso; omega)) | ((with_reducible apply WR.ldd); exact rfl; exact rfl; (first | exact lawn_h (by assumption))) | ((with_reducible apply WR.lss); exact rfl; exact rfl; exact rfl) | ((with_reducible apply WR.cv); exact rfl; exact rfl; (first | exact i64_in _ (by omega) | assumption)) | ((with_reducible apply WR.fa); exact rfl; exact rfl) | ((with_reducible apply WR.nc); exact rfl; exact rfl)
      rfl
theorem firstC_hit {f : Nat → Option (List Int)} {i : Nat} {l : List Int} : ∀ n k, k ≤ i → i < k + n → (∀ j, k ≤ j → j < i → f j = none) → f i = some l → firstC f n k = some l
  | 0, k, h1, h2, _, _ => by omega
  | n + 1, k, h1, h2, h3, h4 => by
    by_cases e : k = i
    · subst e; simp only [firstC, h4]
    · simp only [firstC, h3 k (Nat.le_refl _) (by omega)]
      exact firstC_hit n (k + 1) (by omega) (by omega) (fun j a b => h3 j (by omega) b) h4
theorem firstC_miss {f : Nat → Option (List Int)} : ∀ n k, (∀ j, k ≤ j → j < k + n → f j = none) → firstC f n k = none
  | 0, k, _ => rfl
  | n + 1, k, h3 => by
    simp only [firstC, h3 k (Nat.le_refl _) (by omega)]
    exact firstC_miss n (k + 1) (fun j a b => h3 j (by omega) (by omega))
def cutsRes (z : Ret) (o : Option (List Int)) : Res := match o with
  | some l => ⟨[.own l.length 1 (encI .i64 l), .s (.int .i64 0)], []⟩
  | none => ⟨[z, .s (.int .i64 6)], []⟩
theorem fewestCuts_gives (l : IsLawn w h g cs) (hok : LawnOk w h g) {q : Nat → Int} (hq : WGood w h g q) (need bound : Int) (hn : 1 ≤ need ∧ need ≤ 4) (hb0 : 0 ≤ bound) : Gives G 418 [aa cs, aa (wR q), ai .i64 need, ai .i64 bound] (cutsRes (.s .nils) (firstC (fun k => underQ w h g need bound k q) 5 0)) := by
  have hc := weedsCode_gives l hok hq need hn _ (noBad_nil cs)
  have hf := fun k (hk : k ≤ 4) => firstCuts_gives l hok need bound k hk hq
  obtain ⟨F, hF⟩ : ∃ F : Nat → Option (List Int), F = fun k => underQ w h g need bound k q := ⟨_, rfl⟩
  have hFi : ∀ k, underQ w h g need bound k q = F k := fun k => by rw [hF]
  rw [← hF]
  clear hF
  refine Gives.by rfl rfl (W.seq ?_)
  repeat' first | ((with_reducible apply WR.c_s (f := 421) (fn := Code.f421)); exact rfl; exact rfl; exact rfl; (exact rfl); (focus ((repeat' first | exact args_nil | apply args_d | exact toD_d rfl | exact rfl); done)); exact hc) | ((with_reducible apply WR.mv); exact rfl; exact rfl) | ((with_reducible apply WR.ld); exact rfl; exact rfl; exact rfl; (first | exact loadC_all (IsLawn.len (by assumption)) | exact loadC_all rowI_len)) | ((with_reducible apply WR.nil)) | (with_reducible refine andThen_n ?_) | (with_reducible refine W.seq ?_) | (with_reducible refine W.region ?_) | (with_reducible refine W.skip ?_) | (with_reducible refine W.block ?_) | ((with_reducible apply W.condF); exact rfl) | (intro hb; try (exfalso; omega)) | ((with_reducible apply WR.lss); exact rfl; exact rfl; exact rfl) | ((with_reducible apply WR.bx); exact rfl; exact rfl; exact (by first | exact IsLawn.len (by assumption) | exact rowI_len | exact rfl); (exact rfl)) | ((with_reducible apply WR.eql); exact rfl; exact rfl; exact rfl) | ((with_reducible apply WR.neq); exact rfl; exact rfl; exact rfl) | ((with_reducible apply WR.pk); exact rfl; exact rfl)
  all_goals first
    | (exfalso; omega)
    | skip
  (refine (?_ : W _ (Code.loop _) _ _))
  (refine W.loopM [2, 3, 4, 5] [4, 5] [1036] (fun i : (Nat) => (5 - i : Nat)) (fun i : (Nat) => (i ≤ 5 ∧ ∀ j, j < i → F j = none : Prop)) (fun i : (Nat) => [(27, .a (.d (.s (.int .i64 (i : Nat)))))]) (fun i : (Nat) => []) 0 (⟨by omega, fun j hj => by omega⟩) ⟨rfl, trivial⟩ trivial ⟨np, trivial⟩ ?_)
  rintro i σ hP hN; dsimp only [setL, putL] at hP ⊢; obtain ⟨n1036, hN⟩ := hN
  obtain ⟨hi, hno⟩ := hP
  by_cases hil : i < 5
  · have hrec := hf i (by omega)
    rw [hFi i] at hrec
    cases hFx : F i with
    | some R =>
      have hres := firstC_hit 5 0 (Nat.zero_le _) (by omega) (fun j _ hj => hno j hj) hFx
      rw [hFx] at hrec
      simp only [fcRes] at hrec
      rw [hres]
      repeat' first | ((with_reducible apply WR.c_os (f := 434) (fn := Code.f434)); exact rfl; exact rfl; exact rfl; (exact rfl); (focus ((repeat' first | exact args_nil | apply args_d | exact toD_d rfl | exact all_nil | apply all_cons | exact rfl); done)); exact hrec; (first | exact rfl | assumption)) | ((with_reducible apply WR.mv); exact rfl; exact rfl) | ((with_reducible apply WR.mvt); exact rfl; exact rfl) | ((with_reducible apply WR.ld); exact rfl; exact rfl; exact rfl; (first | exact loadC_all (IsLawn.len (by assumption)) | exact loadC_all rowI_len)) | ((with_reducible apply WR.nil)) | (with_reducible refine andThen_n ?_) | (with_reducible refine andThen_r ?_) | (with_reducible refine inB_r ?_) | (with_reducible refine W.seq ?_) | (with_reducible refine W.region ?_) | (with_reducible refine W.skip ?_) | (with_reducible refine W.ret ?_) | (with_reducible refine W.block ?_) | ((with_reducible apply W.condT); exact rfl) | ((with_reducible apply Done.f); (intro hh hh2; exact (nomatch hh2)); (focus ((repeat' first | exact all_nil | apply all_cons | exact res_tmp rfl | exact rfl); done)); (focus ((repeat' first | exact all_nil | apply all_cons | exact retOf_s rfl | exact retOf_o rfl rfl (by first | exact (encI_length _ _).trans (Nat.mul_one _).symm | assumption | exact rfl) | exact rfl); done)); exact rfl; (focus ((repeat' first | exact outs_nil | apply outs_d | exact rfl); done))) | (intro hb; try (exfalso; omega)) | ((with_reducible apply WR.lss); exact rfl; exact rfl; exact rfl) | ((with_reducible apply WR.ex); exact rfl; exact rfl)
      rfl
    | none =>
      rw [hFx] at hrec
      have hno2 : ∀ j, j < i + 1 → F j = none := fun j hj => by
        by_cases e : j = i
        · subst e; exact hFx
        · exact hno j (by omega)
      by_cases hi0 : i = 0
      · subst hi0
        simp only [fcRes, zRet, if_pos] at hrec
        repeat' first | ((with_reducible apply WR.c_os (f := 434) (fn := Code.f434)); exact rfl; exact rfl; exact rfl; (exact rfl); (focus ((repeat' first | exact args_nil | apply args_d | exact toD_d rfl | exact rfl); done)); exact hrec; (first | exact rfl | assumption)) | ((with_reducible apply WR.mv); exact rfl; exact rfl) | ((with_reducible apply WR.mvt); exact rfl; exact rfl) | ((with_reducible apply WR.ld); exact rfl; exact rfl; exact rfl; (first | exact loadC_all (IsLawn.len (by assumption)) | exact loadC_all rowI_len)) | ((with_reducible apply WR.nil)) | (with_reducible refine andThen_n ?_) | (with_reducible refine inB_n ?_) | (with_reducible refine W.seq ?_) | (with_reducible refine W.region ?_) | (with_reducible refine W.skip ?_) | (with_reducible refine W.block ?_) | ((with_reducible apply W.condT); exact rfl) | ((with_reducible apply W.condF); exact rfl) | (intro hb; try (exfalso; omega)) | ((with_reducible apply WR.lss); exact rfl; exact rfl; exact rfl) | ((with_reducible apply WR.ex); exact rfl; exact rfl) | ((with_reducible apply WR.ad); exact rfl; exact rfl; exact rfl; (first | exact i64_in _ (by omega) | assumption))
        (refine W.nxt (0 + 1) (by first | omega | (dsimp only; omega)) ?_ ⟨rfl, trivial⟩ trivial ⟨rfl, rfl, rfl, rfl, trivial⟩ ⟨rfl, rfl, trivial⟩ ⟨np, trivial⟩); (try dsimp only)
        exact ⟨by omega, hno2⟩
      · simp only [fcRes, zRet] at hrec
        rw [if_neg hi0] at hrec
        repeat' first | ((with_reducible apply WR.c_ss (f := 434) (fn := Code.f434)); exact rfl; exact rfl; exact rfl; (exact rfl); (focus ((repeat' first | exact args_nil | apply args_d | exact toD_d rfl | exact rfl); done)); exact hrec) | ((with_reducible apply WR.mv); exact rfl; exact rfl) | ((with_reducible apply WR.mvt); exact rfl; exact rfl) | ((with_reducible apply WR.ld); exact rfl; exact rfl; exact rfl; (first | exact loadC_all (IsLawn.len (by assumption)) | exact loadC_all rowI_len)) | ((with_reducible apply WR.nil)) | (with_reducible refine andThen_n ?_) | (with_reducible refine inB_n ?_) | (with_reducible refine W.seq ?_) | (with_reducible refine W.region ?_) | (with_reducible refine W.skip ?_) | (with_reducible refine W.block ?_) | ((with_reducible apply W.condT); exact rfl) | ((with_reducible apply W.condF); exact rfl) | (intro hb; try (exfalso; omega)) | ((with_reducible apply WR.lss); exact rfl; exact rfl; exact rfl) | ((with_reducible apply WR.ex); exact rfl; exact rfl) | ((with_reducible apply WR.ad); exact rfl; exact rfl; exact rfl; (first | exact i64_in _ (by omega)))
        (refine W.nxt (i + 1) (by first | omega | (dsimp only; omega)) ?_ ⟨rfl, trivial⟩ trivial ⟨rfl, rfl, rfl, rfl, trivial⟩ ⟨rfl, rfl, trivial⟩ ⟨np, trivial⟩); (try dsimp only)
        exact ⟨by omega, hno2⟩
  · rw [firstC_miss 5 0 (fun j _ hj => hno j (by omega))]
    repeat' first | ((with_reducible apply WR.mv); exact rfl; exact rfl) | ((with_reducible apply WR.nil)) | (with_reducible refine andThen_n ?_) | (with_reducible refine andThen_x ?_) | (with_reducible refine inB_x ?_) | (with_reducible refine W.seq ?_) | (with_reducible refine W.region ?_) | (with_reducible refine W.ret ?_) | (with_reducible refine W.exit ?_) | ((with_reducible apply W.condF); exact rfl) | ((with_reducible apply Done.f); (intro hh hh2; exact (nomatch hh2)); (focus ((repeat' first | exact all_nil | apply all_cons | exact res_tmp rfl); done)); (focus ((repeat' first | exact all_nil | apply all_cons | exact retOf_s rfl); done)); exact rfl; (focus ((repeat' first | exact outs_nil | apply outs_d); done))) | (intro hb; try (exfalso; omega)) | ((with_reducible apply WR.lss); exact rfl; exact rfl; exact rfl)
    rfl
theorem fewestCutsS_gives (l : IsLawn w h g cs) (hok : LawnOk w h g) {q : Nat → Int} (hq : WGood w h g q) (need bound : Int) (hn : 1 ≤ need ∧ need ≤ 4) (hb0 : 0 ≤ bound) : Gives G 419 [aa cs, aa (wR q), ai .i64 need, ai .i64 bound] (cutsRes (.own 0 1 (encI .i64 [])) (firstC (fun k => underQ w h g need bound k q) 5 0)) := by
  have hnd := l07Need_gives need hn
  have hc := l07Asked_gives l hok hq
  have hf := fun k (hk : k ≤ 4) => l07Under_gives l hok need bound k hk hq
  obtain ⟨F, hF⟩ : ∃ F : Nat → Option (List Int), F = fun k => underQ w h g need bound k q := ⟨_, rfl⟩
  have hFi : ∀ k, underQ w h g need bound k q = F k := fun k => by rw [hF]
  rw [← hF]
  clear hF
  refine Gives.by rfl rfl (W.seq ?_)
  repeat' first | ((with_reducible apply WR.c_s (f := 424) (fn := Code.f424)); exact rfl; exact rfl; exact rfl; (exact rfl); (focus ((repeat' first | exact args_nil | apply args_d | exact toD_d rfl | exact toD_ptr rfl rfl | exact rfl); done)); exact hnd) | ((with_reducible apply WR.c_s (f := 426) (fn := Code.f426)); exact rfl; exact rfl; exact rfl; (exact rfl); (focus ((repeat' first | exact args_nil | apply args_d | exact toD_d rfl | exact toD_ptr rfl rfl | exact rfl); done)); exact hc) | ((with_reducible apply WR.mv); exact rfl; exact rfl) | ((with_reducible apply WR.nil)) | (with_reducible refine andThen_n ?_) | (with_reducible refine W.seq ?_) | (with_reducible refine W.region ?_) | (with_reducible refine W.skip ?_) | (with_reducible refine W.block ?_) | ((with_reducible apply W.condF); exact rfl) | (intro hb; try (exfalso; omega)) | ((with_reducible apply WR.bx); exact rfl; exact rfl; exact (by first | exact IsLawn.len (by assumption) | exact rowI_len | exact rfl); (exact rfl)) | ((with_reducible apply WR.geq); exact rfl; exact rfl; exact rfl) | ((with_reducible apply WR.neq); exact rfl; exact rfl; exact rfl) | ((with_reducible apply WR.pk); exact rfl; exact rfl)
  all_goals first
    | (exfalso; omega)
    | skip
  (refine (?_ : W _ (Code.loop _) _ _))
  (refine W.loopM [2, 3, 4, 5] [4, 5] [39, 1034] (fun i : (Nat) => (5 - i : Nat)) (fun i : (Nat) => (i ≤ 5 ∧ ∀ j, j < i → F j = none : Prop)) (fun i : (Nat) => [(11, .a (.d (.s (.int .i64 (i : Nat)))))]) (fun i : (Nat) => []) 0 (⟨by omega, fun j hj => by omega⟩) ⟨rfl, trivial⟩ trivial ⟨np, np, trivial⟩ ?_)
  rintro i σ hP hN; dsimp only [setL, putL] at hP ⊢; obtain ⟨n39, hN⟩ := hN; obtain ⟨n1034, hN⟩ := hN
  obtain ⟨hi, hno⟩ := hP
  by_cases hil : i < 5
  · have hrec := hf i (by omega)
    rw [hFi i] at hrec
    cases hFx : F i with
    | some R =>
      have hres := firstC_hit 5 0 (Nat.zero_le _) (by omega) (fun j _ hj => hno j hj) hFx
      rw [hFx] at hrec
      simp only [fcRes] at hrec
      rw [hres]
      repeat' first | ((with_reducible apply WR.c_os (f := 435) (fn := Code.f435)); exact rfl; exact rfl; exact rfl; (exact rfl); (focus ((repeat' first | exact args_nil | apply args_d | exact toD_d rfl | exact toD_ptr rfl rfl | exact all_nil | apply all_cons | exact rfl); done)); exact hrec; (first | exact rfl | assumption)) | ((with_reducible apply WR.mv); exact rfl; exact rfl) | ((with_reducible apply WR.mvt); exact rfl; exact rfl) | ((with_reducible apply WR.nil)) | (with_reducible refine andThen_n ?_) | (with_reducible refine andThen_r ?_) | (with_reducible refine inB_r ?_) | (with_reducible refine W.seq ?_) | (with_reducible refine W.region ?_) | (with_reducible refine W.skip ?_) | (with_reducible refine W.ret ?_) | (with_reducible refine W.block ?_) | ((with_reducible apply W.condT); exact rfl) | ((with_reducible apply Done.f); (intro hh hh2; exact (nomatch hh2)); (focus ((repeat' first | exact all_nil | apply all_cons | exact res_tmp rfl | exact rfl); done)); (focus ((repeat' first | exact all_nil | apply all_cons | exact retOf_s rfl | exact retOf_o rfl rfl (by first | exact (encI_length _ _).trans (Nat.mul_one _).symm | assumption | exact rfl) | exact rfl); done)); exact rfl; (focus ((repeat' first | exact outs_nil | apply outs_d | exact rfl); done))) | (intro hb; try (exfalso; omega)) | ((with_reducible apply WR.ex); exact rfl; exact rfl) | ((with_reducible apply WR.leq); exact rfl; exact rfl; exact rfl) | ((with_reducible apply WR.ld); exact rfl; exact rfl; exact rfl; (first | exact loadC_all rowI_len))
      rfl
    | none =>
      rw [hFx] at hrec
      simp only [fcRes] at hrec
      have hno2 : ∀ j, j < i + 1 → F j = none := fun j hj => by
        by_cases e : j = i
        · subst e; exact hFx
        · exact hno j (by omega)
      repeat' first | ((with_reducible apply WR.c_os (f := 435) (fn := Code.f435)); exact rfl; exact rfl; exact rfl; (exact rfl); (focus ((repeat' first | exact args_nil | apply args_d | exact toD_d rfl | exact toD_ptr rfl rfl | exact rfl); done)); exact hrec; (first | exact rfl | assumption)) | ((with_reducible apply WR.mv); exact rfl; exact rfl) | ((with_reducible apply WR.mvt); exact rfl; exact rfl) | ((with_reducible apply WR.nil)) | (with_reducible refine andThen_n ?_) | (with_reducible refine inB_n ?_) | (with_reducible refine W.seq ?_) | (with_reducible refine W.region ?_) | (with_reducible refine W.skip ?_) | (with_reducible refine W.block ?_) | ((with_reducible apply W.condT); exact rfl) | ((with_reducible apply W.condF); exact rfl) | (intro hb; try (exfalso; omega)) | ((with_reducible apply WR.ex); exact rfl; exact rfl) | ((with_reducible apply WR.leq); exact rfl; exact rfl; exact rfl) | ((with_reducible apply WR.ad); exact rfl; exact rfl; exact rfl; (first | exact i64_in _ (by omega) | assumption)) | ((with_reducible apply WR.ld); exact rfl; exact rfl; exact rfl; (first | exact loadC_all rowI_len))
      (refine W.nxt (i + 1) (by first | omega | (dsimp only; omega)) ?_ ⟨rfl, trivial⟩ trivial ⟨rfl, rfl, rfl, rfl, trivial⟩ ⟨rfl, rfl, trivial⟩ ⟨np, np, trivial⟩); (try dsimp only)
      exact ⟨by omega, hno2⟩
  · rw [firstC_miss 5 0 (fun j _ hj => hno j (by omega))]
    repeat' first | ((with_reducible apply WR.mv); exact rfl; exact rfl) | ((with_reducible apply WR.nil)) | (with_reducible refine andThen_n ?_) | (with_reducible refine andThen_x ?_) | (with_reducible refine inB_x ?_) | (with_reducible refine W.seq ?_) | (with_reducible refine W.region ?_) | (with_reducible refine W.ret ?_) | (with_reducible refine W.exit ?_) | ((with_reducible apply W.condF); exact rfl) | ((with_reducible apply Done.f); (intro hh hh2; exact (nomatch hh2)); (focus ((repeat' first | exact all_nil | apply all_cons | exact res_tmp rfl | exact rfl); done)); (focus ((repeat' first | exact all_nil | apply all_cons | exact retOf_s rfl | exact retOf_o rfl rfl (by first | assumption | exact rfl) | exact rfl); done)); exact rfl; (focus ((repeat' first | exact outs_nil | apply outs_d | exact rfl); done))) | (intro hb; try (exfalso; omega)) | ((with_reducible apply WR.bs); exact rfl; exact rfl; (first | exact rfl | assumption)) | ((with_reducible apply WR.leq); exact rfl; exact rfl; exact rfl)
    rfl
end Go.DM
