/- Numbers as text, texts put together: what the library and the reference give. -/
import Derived.Test.YtgbifpijjfolbaaGreatK441Text
import Derived.Test.YtgbifpijjfolbaaGreatK441More
import Derived.Test.YtgbifpijjfolbaaGreatK441Beside
import Derived.Test.YtgbifpijjfolbaaGreatK441WeedD
set_option linter.all false
set_option maxHeartbeats 4000000
namespace Go.DM
variable [Tok]
open Go.IntWalk
end Go.DM

/- Rounds as text: both sides, the statement. -/
set_option maxHeartbeats 4000000
namespace Go.DM
variable [Tok]
open Go.IntWalk
def oneT (r : Rnd) : List UInt8 := [if r.2 then 104 else 99, UInt8.ofNat (48 + r.1.toNat)]
def toldT (l : List Rnd) : List UInt8 := Lib.join (l.map oneT) [32]
abbrev aro (l : List Rnd) : Arg := .d (.sl l.length 2 (encO l))
def RndOk (l : List Rnd) : Prop := (∀ r ∈ l, 0 ≤ r.1 ∧ r.1 ≤ 9) ∧ l.length ≤ 60
instance (l : List Rnd) : Decidable (RndOk l) := inferInstanceAs (Decidable (_ ∧ _))
end Go.DM

/- Weeds: days, rounds, the best row: both sides. -/
set_option maxHeartbeats 4000000
namespace Go.DM
variable [Tok]
open Go.IntWalk
variable {w h : Int} {g : Nat → Int} {cs : List S}
theorem countWeeds_gives (l : IsLawn w h g cs) (hok : LawnOk w h g) {q : Nat → Int} (hq : WGood w h g q) : Gives G 417 [aa cs, aa (wR q)] ⟨[.s (.int .i64 (cntQ q)), .s (.int .i64 0)], []⟩ := by
  have hc := weedsCode_gives l hok hq 1 (by omega) _ (noBad_nil cs)
  have n1 := count_gives q hq.1
  refine Gives.by rfl rfl (W.seq ?_)
  repeat' first | ((with_reducible apply WR.c_s (f := 421) (fn := Code.f421)); (iterate 3 exact rfl); exact rfl; (focus ((repeat' first | exact args_nil | apply args_d | exact toD_d rfl | exact all_nil | apply all_cons | exact rfl); done)); exact hc) | ((with_reducible apply WR.c_s (f := 350) (fn := Code.f350)); (iterate 3 exact rfl); exact rfl; (focus ((repeat' first | exact args_nil | apply args_d | exact toD_d rfl | exact all_nil | apply all_cons | exact rfl); done)); exact n1) | ((with_reducible apply WR.mv); exact rfl; exact rfl) | ((with_reducible apply WR.ld); (iterate 3 exact rfl); (first | exact loadC_all (IsLawn.len (by assumption)) | exact loadC_all rowI_len)) | (with_reducible first | apply WR.nil | refine andThen_n ?_ | refine W.seq ?_ | refine W.region ?_ | refine W.skip ?_ | refine W.ret ?_) | ((with_reducible apply W.condF); exact rfl) | ((with_reducible apply Done.f); (intro hh hh2; exact (nomatch hh2)); (focus ((repeat' first | exact all_nil | apply all_cons | exact res_tmp rfl | exact rfl); done)); (focus ((repeat' first | exact all_nil | apply all_cons | exact retOf_s rfl | exact rfl); done)); exact rfl; (focus ((repeat' first | exact outs_nil | apply outs_d | exact rfl); done))) | (intro hb; try (exfalso; omega)) | ((with_reducible apply WR.bx); exact rfl; exact rfl; exact (by first | exact IsLawn.len (by assumption) | exact rowI_len | exact rfl); exact rfl) | ((with_reducible apply WR.neq); iterate 3 exact rfl)
  rfl
def RowsIn (h : Int) (rs : List Rnd) : Prop := ∀ r ∈ rs, 0 ≤ r.1 ∧ r.1 < h
def runRes (w h : Int) (g : Nat → Int) (need : Int) (q : Nat → Int) (rs : List Rnd) : Res := ⟨[.agg (wR (runR w h g need (q, 0) rs).1), .s (.int .i64 (runR w h g need (q, 0) rs).2), .s (.int .i64 0)], []⟩
theorem runR_snoc (need : Int) (s : (Nat → Int) × Int) {rs : List Rnd} {i : Nat} (hi : i < rs.length) : runR w h g need s (rs.take (i + 1)) = runS w h g need (runR w h g need s (rs.take i)) (gO rs i) := by
  unfold runR
  exact fold_snoc s (gO_get hi)
theorem runR_goodT (hs : w ≤ 10 ∧ h ≤ 10) {need : Int} {q : Nat → Int} (hq : WGood w h g q) {rs : List Rnd} (hr : RowsIn h rs) (i : Nat) : WGood w h g (runR w h g need (q, 0) (rs.take i)).1 :=
  runR_good hs _ hq fun r hm => by have := hr r (List.mem_of_mem_take hm); omega
theorem runRounds_gives (l : IsLawn w h g cs) (hok : LawnOk w h g) {q : Nat → Int} (hq : WGood w h g q) (need : Int) (hn : 1 ≤ need ∧ need ≤ 4) (rs : List Rnd) (hl : rs.length ≤ 60) (hr : RowsIn h rs) : Gives G 407 [aa cs, aa (wR q), ai .i64 need, aro rs] (runRes w h g need q rs) := by
  have hs1 := hok.1
  have hs2 := hok.2.1
  have hc := weedsCode_gives l hok hq need hn _ (noBad_list l (by omega) (rs.map fun r => r.1) (by rw [List.length_map]; omega) (fun n hm => by
    obtain ⟨r, h1, rfl⟩ := List.mem_map.1 hm
    exact hr r h1))
  refine Gives.by rfl rfl (W.seq ?_)
  repeat' first | ((with_reducible first | apply WR.mv | apply WR.le); exact rfl; exact rfl) | ((with_reducible apply WR.al); exact rfl; exact rfl) | (with_reducible first | apply WR.nil | refine andThen_n ?_ | refine W.seq ?_ | refine W.region ?_ | refine W.block ?_) | ((with_reducible apply WR.bx); exact rfl; exact rfl; exact (by first | exact IsLawn.len (by assumption) | exact rowI_len | exact rfl); exact rfl) | ((with_reducible apply WR.bs); exact rfl; exact rfl; exact rfl)
  (refine (?_ : W _ (Code.loop _) _ _))
  (refine W.loopM [2, 3, 4, 5, 8, 20, 21] [4, 5, 8] [13, 17, 18, 30, 31] (fun ((i, out) : (Nat) × (List Int)) => (rs.length - i : Nat)) (fun ((i, out) : (Nat) × (List Int)) => (i ≤ rs.length ∧ out = (rs.take i).map (fun r => r.1) ∧ out.length = i : Prop)) (fun z : (Nat) × (List Int) => match z with | (i, out) => [(11, .a (.sl 19 0 out.length 1)), (22, .a (.d (.s (.int .i64 (i : Nat)))))]) (fun z : (Nat) × (List Int) => match z with | (i, out) => [(19, .flat false (encI .i64 out))]) (0, []) (⟨by omega, rfl, rfl⟩) ⟨rfl, rfl, trivial⟩ ⟨rfl, trivial⟩ ⟨np, np, np, np, np, trivial⟩ ?_)
  rintro ⟨i, out⟩ σ hP hN; dsimp only [setL, putL] at hP ⊢; obtain ⟨n13, hN⟩ := hN; obtain ⟨n17, hN⟩ := hN; obtain ⟨n18, hN⟩ := hN; obtain ⟨n30, hN⟩ := hN; obtain ⟨n31, hN⟩ := hN
  obtain ⟨hi, ho, hol⟩ := hP
  by_cases hil : i < rs.length
  · have hri := hr _ (gO_mem hil)
    repeat' first | ((with_reducible first | apply WR.mv | apply WR.lx | apply WR.fa); exact rfl; exact rfl) | ((with_reducible apply WR.ldd); exact rfl; exact rfl; (first | exact ldOd (by first | omega))) | ((with_reducible apply WR.st); (iterate 3 exact rfl); exact st2) | ((with_reducible apply WR.al); exact rfl; (first | assumption | (focus ((repeat' first | assumption | (with_reducible apply noPar_set) | ((with_reducible apply noPar_puto); exact rfl) | (with_reducible apply noPar_kill)); done)))) | (with_reducible first | apply WR.nil | refine andThen_n ?_ | refine inB_n ?_ | refine W.seq ?_ | refine W.region ?_ | refine W.skip ?_ | refine W.block ?_) | ((with_reducible apply W.condT); exact rfl) | (intro hb; try (exfalso; omega)) | ((with_reducible apply WR.bsI1); exact rfl; exact rfl; (first | assumption | (focus ((repeat' first | assumption | (with_reducible apply noPar_set) | ((with_reducible apply noPar_puto); exact rfl) | (with_reducible apply noPar_kill)); done)))) | ((with_reducible apply WR.lss); iterate 3 exact rfl) | ((with_reducible apply WR.cv); exact rfl; exact rfl; (first | exact i64_in _ (by omega) | assumption)) | ((with_reducible apply WR.ad); (iterate 3 exact rfl); (first | exact i64_in _ (by omega) | assumption)) | ((with_reducible apply WR.idn); (iterate 3 exact rfl); omega; (exact Nat.le_of_eq (encO_length _).symm)) | ((with_reducible apply WR.apI); (iterate 4 exact rfl); (omega))
    (refine W.nxt (i + 1, out ++ [(gO rs i).1]) (by first | omega | (dsimp only; omega)) ?_ ⟨rfl, rfl, trivial⟩ ⟨rfl, trivial⟩ ⟨rfl, rfl, rfl, rfl, rfl, rfl, rfl, trivial⟩ ⟨rfl, rfl, rfl, trivial⟩ ⟨np, np, np, np, np, trivial⟩); (try dsimp only)
    exact ⟨by omega, by rw [List.take_add_one, gO_get hil, List.map_append, ho]; rfl, by rw [List.length_append, hol]; rfl⟩
  · have hout : out = rs.map fun r => r.1 := by rw [ho, List.take_of_length_le (by omega)]
    rw [← hout] at hc
    repeat' first | ((with_reducible apply WR.c_s (f := 421) (fn := Code.f421)); (iterate 3 exact rfl); exact rfl; (focus ((repeat' first | exact args_nil | apply args_d | exact toD_d rfl | exact toD_slI rfl rfl (by first | exact rfl) | exact rfl); done)); exact hc) | ((with_reducible first | apply WR.mv | apply WR.le | apply WR.pk); exact rfl; exact rfl) | ((with_reducible apply WR.ld); (iterate 3 exact rfl); (first | exact loadC_all (IsLawn.len (by assumption)) | exact loadC_all rowI_len)) | (with_reducible first | apply WR.nil | refine andThen_n ?_ | refine andThen_x ?_ | refine inB_x ?_ | refine W.seq ?_ | refine W.region ?_ | refine W.skip ?_ | refine W.exit ?_ | refine W.block ?_) | ((with_reducible apply W.condF); exact rfl) | (intro hb; try (exfalso; omega)) | ((with_reducible first | apply WR.lss | apply WR.gtr | apply WR.eql | apply WR.neq); iterate 3 exact rfl)
    (refine (?_ : W _ (Code.loop _) _ _))
    (refine W.loopM [2, 4, 5, 8, 49, 50] [4, 8] [17, 18] (fun ((i, k, n) : (Nat) × (Nat → Int) × (Int)) => (rs.length - i : Nat)) (fun ((i, k, n) : (Nat) × (Nat → Int) × (Int)) => (i ≤ rs.length ∧ k = (runR w h g need (q, 0) (rs.take i)).1 ∧ n = (runR w h g need (q, 0) (rs.take i)).2 : Prop)) (fun z : (Nat) × (Nat → Int) × (Int) => match z with | (i, k, n) => [(15, .a (.d (.s (.int .i64 n)))), (51, .a (.d (.s (.int .i64 (i : Nat)))))]) (fun z : (Nat) × (Nat → Int) × (Int) => match z with | (i, k, n) => [(5, .flat false (wR k))]) (0, q, 0) (⟨by omega, rfl, rfl⟩) ⟨rfl, rfl, trivial⟩ ⟨rfl, trivial⟩ ⟨np, np, trivial⟩ ?_)
    rintro ⟨i, k, n⟩ σ hP hN; dsimp only [setL, putL] at hP ⊢; obtain ⟨n17, hN⟩ := hN; obtain ⟨n18, hN⟩ := hN
    obtain ⟨hi, hk, hnn⟩ := hP
    by_cases hil : i < rs.length
    · have hri := hr _ (gO_mem hil)
      have hst := runR_snoc (w := w) (h := h) (g := g) need (q, 0) hil
      have hgd := runR_goodT (w := w) (h := h) (g := g) (need := need) (by omega) hq hr i
      have hbn := runR_b (w := w) (h := h) (g := g) (need := need) (rs.take i) (s := (q, 0))
      rw [List.length_take] at hbn
      rw [← hk] at hgd
      rw [← hnn] at hbn
      unfold runS at hst
      rw [← hk, ← hnn] at hst
      have hd := spread_gives l (by omega) hgd.1 need
      have hgd2 := dayQ_good (w := w) (h := h) (g := g) (need := need) (by omega) hgd
      have hcut := cut_gives l (by omega) hgd2.1 (gO rs i).1.toNat (by omega) (gO rs i).2
      have hgd3 := cutQ_good (w := w) (h := h) (g := g) (by omega) (row := (gO rs i).1.toNat) (by omega) (hoed := (gO rs i).2) hgd2
      rw [show (((gO rs i).1.toNat : Nat) : Int) = (gO rs i).1 by omega] at hcut
      have n1 := count_gives _ hgd2.1
      have n2 := count_gives _ hgd3.1
      have b1 := cntQ_b (dayQ w h g need k)
      have b2 := cntQ_b (cutQ w h g (gO rs i).1.toNat (gO rs i).2 (dayQ w h g need k))
      generalize cutQ w h g (gO rs i).1.toNat (gO rs i).2 (dayQ w h g need k) = q3 at hst hcut n2 b2
      generalize dayQ w h g need k = q2 at hst hd hcut n1 b1
      repeat' first | ((with_reducible apply WR.c_a (f := 422) (fn := Code.f422)); (iterate 3 exact rfl); exact rfl; (focus ((repeat' first | exact args_nil | apply args_d | exact toD_d rfl | exact rfl); done)); exact hd) | ((with_reducible apply WR.c_a (f := 423) (fn := Code.f423)); (iterate 3 exact rfl); exact rfl; (focus ((repeat' first | exact args_nil | apply args_d | exact toD_d rfl | exact rfl); done)); exact hcut) | ((with_reducible apply WH.c_s (f := 350) (fn := Code.f350)); (iterate 3 exact rfl); exact rfl; (focus ((repeat' first | exact args_nil | apply args_d | exact toD_d rfl | exact rfl); done)); exact n1; exact rfl) | ((with_reducible apply WH.c_s (f := 350) (fn := Code.f350)); (iterate 3 exact rfl); exact rfl; (focus ((repeat' first | exact args_nil | apply args_d | exact toD_d rfl | exact rfl); done)); exact n2; exact rfl) | ((with_reducible first | apply WR.mv | apply WR.lx | apply WR.fa); exact rfl; exact rfl) | ((with_reducible apply WR.ld); (iterate 3 exact rfl); (first | exact ldOd (by first | omega) | exact loadC_all (IsLawn.len (by assumption)) | exact loadC_all rowI_len)) | ((with_reducible apply WR.ldd); exact rfl; exact rfl; (first | exact ldOd (by first | omega) | exact loadC_all (IsLawn.len (by assumption)) | exact loadC_all rowI_len)) | ((with_reducible apply WR.st); (iterate 3 exact rfl); exact st2) | ((with_reducible apply WR.st); (iterate 3 exact rfl); exact storeAll (by first | exact List.length_replicate .. | exact rowI_len | assumption | exact rfl) (by first | exact List.length_replicate .. | exact rowI_len | assumption | exact rfl)) | ((with_reducible apply WR.al); exact rfl; (first | exact rfl | assumption | (focus ((repeat' first | exact rfl | assumption | (with_reducible apply noPar_set) | ((with_reducible apply noPar_puto); exact rfl) | (with_reducible apply noPar_kill)); done)))) | (with_reducible first | apply WR.nil | refine andThen_n ?_ | refine inB_n ?_ | refine W.seq ?_ | refine W.region ?_ | refine W.skip ?_ | refine W.block ?_ | apply WH.nil | refine W.draw ?_) | ((with_reducible apply W.condT); exact rfl) | (intro hb; try (exfalso; omega)) | ((with_reducible first | apply WR.lss | apply WH.mv); iterate 3 exact rfl) | ((with_reducible apply WR.cv); exact rfl; exact rfl; (first | exact i64_in _ (by omega) | assumption)) | ((with_reducible apply WR.ad); (iterate 3 exact rfl); (first | exact i64_in _ (by omega) | assumption)) | ((with_reducible apply WR.idn); (iterate 3 exact rfl); omega; (exact Nat.le_of_eq (encO_length _).symm)) | ((with_reducible apply WH.ld); (iterate 3 exact rfl); (first | exact ldOd (by first | omega) | exact loadC_all (IsLawn.len (by assumption)) | exact loadC_all rowI_len); exact rfl) | ((with_reducible apply WH.ad); (iterate 3 exact rfl); (first | exact i64_in _ (by omega) | assumption)) | ((with_reducible apply WH.sb); (iterate 3 exact rfl); (first | exact i64_in _ (by omega) | assumption))
      (refine W.nxt (i + 1, q3, n + (cntQ q2 - cntQ q3)) (by first | omega | (dsimp only; omega)) ?_ ⟨rfl, rfl, trivial⟩ ⟨rfl, trivial⟩ ⟨rfl, rfl, rfl, rfl, rfl, rfl, trivial⟩ ⟨rfl, rfl, trivial⟩ ⟨np, np, trivial⟩); (try dsimp only)
      exact ⟨by omega, by rw [hst], by rw [hst]⟩
    · rw [List.take_of_length_le (by omega)] at hk hnn
      unfold runRes
      rw [← hk, ← hnn]
      repeat' first | ((with_reducible apply WR.mv); exact rfl; exact rfl) | ((with_reducible apply WR.ld); (iterate 3 exact rfl); (exact loadC_all rowI_len)) | ((with_reducible apply WR.st); (iterate 3 exact rfl); exact storeAll (by first | exact List.length_replicate .. | exact rowI_len) (by first | exact List.length_replicate .. | exact rowI_len)) | (with_reducible first | apply WR.nil | refine andThen_n ?_ | refine andThen_x ?_ | refine inB_x ?_ | refine W.seq ?_ | refine W.region ?_ | refine W.ret ?_ | refine W.exit ?_) | ((with_reducible apply W.condF); exact rfl) | ((with_reducible apply Done.f); (intro hh hh2; exact (nomatch hh2)); (focus ((repeat' first | exact all_nil | apply all_cons | exact res_tmp rfl | exact res_cell rfl rfl (by first | exact List.length_replicate .. | exact rowI_len)); done)); (focus ((repeat' first | exact all_nil | apply all_cons | exact retOf_s rfl | exact retOf_a rfl); done)); exact rfl; (focus ((repeat' first | exact outs_nil | apply outs_d); done))) | (intro hb; try (exfalso; omega)) | ((with_reducible apply WR.lss); iterate 3 exact rfl)
      rfl
end Go.DM

/- Weeds: the rows that leave the fewest, the fewest rows: both sides. -/
set_option maxHeartbeats 4000000
namespace Go.DM
variable [Tok]
open Go.IntWalk
variable {w h : Int} {g : Nat → Int} {cs : List S}
def planRes (P : List Int × Int) : Res := ⟨[.own P.1.length 1 (encI .i64 P.1), .s (.int .i64 P.2)], []⟩
theorem planF_b {f : Nat → List Int × Int} {k : Nat} (hf : ∀ j, 0 ≤ (f j).2 ∧ (f j).2 ≤ 160 ∧ (f j).1.length = k) (n : Nat) : -1 ≤ (planF f n).2 ∧ (planF f n).2 ≤ 160 ∧ (planF f n).1.length ≤ k + 1 := by
  rcases planF_told (f := f) (fun j => (hf j).1) n with ⟨rfl, e⟩ | ⟨j, h1, e, _⟩
  · rw [e]; simp
  · have := hf j
    rw [e]; simp only [List.length_cons]; omega
theorem fewest_gives (l : IsLawn w h g cs) (hok : LawnOk w h g) (need : Int) : ∀ (k : Nat), k ≤ 4 → ∀ {q : Nat → Int}, WGood w h g q → Gives G 430 [aa cs, aa (wR q), ai .i64 need, ai .i64 (k : Nat)] (planRes (planQ w h g need k q))
  | 0, _, q, hq => by
    have n1 := count_gives q hq.1
    refine Gives.by rfl rfl (W.seq ?_)
    repeat' first | ((with_reducible apply WR.c_s (f := 350) (fn := Code.f350)); (iterate 3 exact rfl); exact rfl; (focus ((repeat' first | exact args_nil | apply args_d | exact toD_d rfl | exact all_nil | apply all_cons | exact rfl); done)); exact n1) | ((with_reducible apply WR.mv); exact rfl; exact rfl) | ((with_reducible apply WR.ld); (iterate 3 exact rfl); (exact loadC_all rowI_len)) | ((with_reducible apply WR.bs); exact rfl; exact rfl; exact rfl) | (with_reducible first | apply WR.nil | refine andThen_n ?_ | refine andThen_r ?_ | refine W.seq ?_ | refine W.region ?_ | refine W.ret ?_) | ((with_reducible apply W.condT); exact rfl) | ((with_reducible apply Done.f); (intro hh hh2; exact (nomatch hh2)); (focus ((repeat' first | exact all_nil | apply all_cons | exact res_tmp rfl | exact rfl); done)); (focus ((repeat' first | exact all_nil | apply all_cons | exact retOf_s rfl | exact retOf_o rfl rfl (by first | exact IsLawn.len (by assumption) | exact rowI_len | exact rfl) | exact rfl); done)); exact rfl; (focus ((repeat' first | exact outs_nil | apply outs_d | exact rfl); done))) | (intro hb; try (exfalso; omega)) | ((with_reducible apply WR.bx); exact rfl; exact rfl; exact (by first | exact IsLawn.len (by assumption) | exact rowI_len | exact rfl); exact rfl) | ((with_reducible apply WR.eql); iterate 3 exact rfl)
    all_goals first
      | contradiction
      | rfl
  | k + 1, hk4, q, hq => by
    have hs1 := hok.1
    have hs2 := hok.2.1
    have hd := spread_gives l (by omega) hq.1 need
    have hgd := dayQ_good (w := w) (h := h) (g := g) (need := need) (by omega) hq
    have ih := fun (q' : Nat → Int) (hq' : WGood w h g q') => fewest_gives l hok need k (by omega) hq'
    obtain ⟨F, hF⟩ : ∃ F : Nat → List Int × Int, F = fun row => planQ w h g need k (cutQ w h g row false (dayQ w h g need q)) := ⟨_, rfl⟩
    have hP : planQ w h g need (k + 1) q = planF F h.toNat := by rw [hF]; rfl
    have hFb : ∀ j, 0 ≤ (F j).2 ∧ (F j).2 ≤ 160 ∧ (F j).1.length = k := fun j => by
      have := planQ_b (w := w) (h := h) (g := g) hs2.1 need k (cutQ w h g j false (dayQ w h g need q))
      rw [hF]; exact ⟨this.1, this.2.1, this.2.2.1⟩
    have hPb := planF_b hFb
    have hFi : ∀ j, planQ w h g need k (cutQ w h g j false (dayQ w h g need q)) = F j := fun j => by rw [hF]
    rw [hP]
    clear hF hP
    generalize dayQ w h g need q = q1 at hd hgd hFi
    unfold planRes at ih ⊢
    refine Gives.by rfl rfl (W.seq ?_)
    repeat' first | ((with_reducible apply WR.c_a (f := 422) (fn := Code.f422)); (iterate 3 exact rfl); exact rfl; (focus ((repeat' first | exact args_nil | apply args_d | exact toD_d rfl | exact rfl); done)); exact hd) | ((with_reducible first | apply WR.mv | apply WR.fa); exact rfl; exact rfl) | ((with_reducible apply WR.ld); (iterate 3 exact rfl); (first | exact lawn_h (by assumption) | exact loadC_all (IsLawn.len (by assumption)) | exact loadC_all rowI_len)) | ((with_reducible apply WR.bs); exact rfl; exact rfl; exact rfl) | (with_reducible first | apply WR.nil | refine andThen_n ?_ | refine W.seq ?_ | refine W.region ?_ | refine W.skip ?_ | refine W.block ?_) | ((with_reducible apply W.condF); exact rfl) | (intro hb; try (exfalso; omega)) | ((with_reducible apply WR.rn1); (iterate 4 exact rfl); exact rfl; exact rfl) | ((with_reducible apply WR.bx); exact rfl; exact rfl; exact (by first | exact IsLawn.len (by assumption) | exact rowI_len | exact rfl); exact rfl) | ((with_reducible apply WR.eql); iterate 3 exact rfl) | ((with_reducible apply WR.cv); exact rfl; exact rfl; (exact i64_in _ (by omega))) | ((with_reducible apply WR.st); (iterate 3 exact rfl); exact storeAll (by first | exact IsLawn.len (by assumption) | exact rowI_len | exact rfl) (by first | exact IsLawn.len (by assumption) | exact rowI_len | exact rfl))
    (refine (?_ : W _ (Code.loop _) _ _))
    (refine W.loopM [2, 3, 4, 5, 27] [4, 5] [10, 51, 53, 1040, 2040] (fun ((i, B, m) : (Nat) × (List Int) × (Int)) => (h.toNat - i : Nat)) (fun ((i, B, m) : (Nat) × (List Int) × (Int)) => (i ≤ h.toNat ∧ (B, m) = planF F i : Prop)) (fun z : (Nat) × (List Int) × (Int) => match z with | (i, B, m) => [(10, .a (.sl 10 0 B.length 1)), (11, .a (.d (.s (.int .i64 m)))), (28, .a (.d (.s (.int .i64 (i : Nat)))))]) (fun z : (Nat) × (List Int) × (Int) => match z with | (i, B, m) => [(10, .flat false (encI .i64 B))]) (0, [], -1) (⟨by omega, rfl⟩) ⟨rfl, rfl, rfl, trivial⟩ ⟨rfl, trivial⟩ ⟨np, np, np, np, np, trivial⟩ ?_)
    rintro ⟨i, B, m⟩ σ hP hN; dsimp only [setL, putL] at hP ⊢; obtain ⟨n10, hN⟩ := hN; obtain ⟨n51, hN⟩ := hN; obtain ⟨n53, hN⟩ := hN; obtain ⟨n1040, hN⟩ := hN; obtain ⟨n2040, hN⟩ := hN
    obtain ⟨hi, hbm⟩ := hP
    have hb2 := hPb i
    rw [← hbm] at hb2
    simp only at hb2
    by_cases hil : i < h.toNat
    · have hcut := cut_gives l (by omega) hgd.1 i (by omega) false
      have hgd2 := cutQ_good (w := w) (h := h) (g := g) (by omega) (row := i) (by omega) (hoed := false) hgd
      have hrec := ih _ hgd2
      rw [hFi i] at hrec
      rw [show ((k : Nat) : Int) = ((k + 1 : Nat) : Int) - 1 by omega] at hrec
      have hFbi := hFb i
      have hst := planF_succ F i
      rw [← hbm] at hst
      unfold planS at hst
      generalize F i = p at hrec hFbi hst
      obtain ⟨R, c⟩ := p
      simp only at hrec hFbi hst
      by_cases hc2 : m < 0 ∨ c < m
      · rw [if_pos hc2] at hst
        repeat' first | ((with_reducible apply WH.c_a (f := 423) (fn := Code.f423)); (iterate 3 exact rfl); exact rfl; (focus ((repeat' first | exact args_nil | apply args_d | exact toD_d rfl | exact rfl); done)); exact hcut; exact rfl) | ((with_reducible apply WH.c_os (f := 430) (fn := Code.f430)); (iterate 3 exact rfl); exact rfl; (focus ((repeat' first | exact args_nil | apply args_d | exact toD_d rfl | exact rfl); done)); exact hrec; (first | exact rfl | assumption | (focus ((repeat' first | exact rfl | assumption | (with_reducible apply noPar_set) | ((with_reducible apply noPar_puto); exact rfl) | (with_reducible apply noPar_kill)); done))); exact rfl; exact rfl) | ((with_reducible apply WR.apL (l := [(i : Int)]) (m := R)); (iterate 3 exact rfl); exact elems_own rfl; (simp only [List.length_cons, List.length_nil]; omega)) | ((with_reducible first | apply WR.mv | apply WR.pk); exact rfl; exact rfl) | ((with_reducible apply WH.mv); iterate 3 exact rfl) | ((with_reducible first | apply WH.mvt | apply WR.lss | apply WH.ex); iterate 3 exact rfl) | ((with_reducible apply WR.bsI1); exact rfl; exact rfl; (first | exact rfl | assumption | (focus ((repeat' first | exact rfl | assumption | (with_reducible apply noPar_set) | ((with_reducible apply noPar_puto); exact rfl) | (with_reducible apply noPar_kill)); done)))) | (with_reducible first | apply WR.nil | refine andThen_n ?_ | refine inB_n ?_ | refine W.seq ?_ | refine W.region ?_ | refine W.skip ?_ | refine W.block ?_ | apply WH.nil | refine W.draw ?_) | ((with_reducible apply W.condT); exact rfl) | ((with_reducible apply WH.ld); (iterate 3 exact rfl); (first | exact loadC_all (IsLawn.len (by assumption)) | exact loadC_all rowI_len); exact rfl) | (intro hb; try (exfalso; omega)) | ((with_reducible apply WR.rn1); (iterate 4 exact rfl); (first | exact rfl | assumption | (focus ((repeat' first | exact rfl | assumption | (with_reducible apply noPar_set) | ((with_reducible apply noPar_puto); exact rfl) | (with_reducible apply noPar_kill)); done))); (first | exact rfl | assumption | (focus ((repeat' first | exact rfl | assumption | (with_reducible apply noPar_set) | ((with_reducible apply noPar_puto); exact rfl) | (with_reducible apply noPar_kill)); done)))) | ((with_reducible apply WR.off); exact rfl) | ((with_reducible apply WR.ad); (iterate 3 exact rfl); (first | exact i64_in _ (by omega) | assumption)) | ((with_reducible apply WH.sb); (iterate 3 exact rfl); (first | exact i64_in _ (by omega) | assumption))
        all_goals first
          | (exfalso; omega)
          | ((refine W.nxt (i + 1, [(i : Int)] ++ R, c) (by first | omega | (dsimp only; omega)) ?_ ⟨rfl, rfl, rfl, trivial⟩ ⟨rfl, trivial⟩ ⟨rfl, rfl, rfl, rfl, rfl, trivial⟩ ⟨rfl, rfl, trivial⟩ ⟨np, np, np, np, np, trivial⟩); (try dsimp only)
             exact ⟨by omega, hst.symm⟩)
      · rw [if_neg hc2] at hst
        repeat' first | ((with_reducible apply WH.c_a (f := 423) (fn := Code.f423)); (iterate 3 exact rfl); exact rfl; (focus ((repeat' first | exact args_nil | apply args_d | exact toD_d rfl | exact rfl); done)); exact hcut; exact rfl) | ((with_reducible apply WH.c_os (f := 430) (fn := Code.f430)); (iterate 3 exact rfl); exact rfl; (focus ((repeat' first | exact args_nil | apply args_d | exact toD_d rfl | exact rfl); done)); exact hrec; (first | exact rfl | assumption); exact rfl; exact rfl) | ((with_reducible first | apply WR.mv | apply WR.pk); exact rfl; exact rfl) | ((with_reducible apply WH.mv); iterate 3 exact rfl) | ((with_reducible first | apply WH.mvt | apply WR.lss | apply WH.ex); iterate 3 exact rfl) | (with_reducible first | apply WR.nil | refine andThen_n ?_ | refine inB_n ?_ | refine W.seq ?_ | refine W.region ?_ | refine W.skip ?_ | refine W.block ?_ | apply WH.nil | refine W.draw ?_) | ((with_reducible apply W.condT); exact rfl) | ((with_reducible apply W.condF); exact rfl) | ((with_reducible apply WH.ld); (iterate 3 exact rfl); (first | exact loadC_all (IsLawn.len (by assumption)) | exact loadC_all rowI_len); exact rfl) | (intro hb; try (exfalso; omega)) | ((with_reducible apply WR.ad); (iterate 3 exact rfl); (first | exact i64_in _ (by omega) | assumption)) | ((with_reducible apply WH.sb); (iterate 3 exact rfl); (first | exact i64_in _ (by omega) | assumption))
        all_goals first
          | (exfalso; omega)
          | ((refine W.nxt (i + 1, B, m) (by first | omega | (dsimp only; omega)) ?_ ⟨rfl, rfl, rfl, trivial⟩ ⟨rfl, trivial⟩ ⟨rfl, rfl, rfl, rfl, rfl, trivial⟩ ⟨rfl, rfl, trivial⟩ ⟨np, np, np, np, np, trivial⟩); (try dsimp only)
             exact ⟨by omega, hst.symm⟩)
    · obtain rfl : i = h.toNat := by omega
      rw [← hbm]
      repeat' first | ((with_reducible apply WR.mv); exact rfl; exact rfl) | ((with_reducible apply WR.lss); iterate 3 exact rfl) | (with_reducible first | apply WR.nil | refine andThen_n ?_ | refine andThen_x ?_ | refine inB_x ?_ | refine W.seq ?_ | refine W.region ?_ | refine W.ret ?_ | refine W.exit ?_) | ((with_reducible apply W.condF); exact rfl) | ((with_reducible apply Done.f); (intro hh hh2; exact (nomatch hh2)); (focus ((repeat' first | exact all_nil | apply all_cons | exact res_tmp rfl); done)); (focus ((repeat' first | exact all_nil | apply all_cons | exact retOf_s rfl | exact retOf_o rfl rfl (by first | exact (encI_length _ _).trans (Nat.mul_one _).symm)); done)); exact rfl; (focus ((repeat' first | exact outs_nil | apply outs_d); done))) | (intro hb; try (exfalso; omega))
      rfl
end Go.DM
