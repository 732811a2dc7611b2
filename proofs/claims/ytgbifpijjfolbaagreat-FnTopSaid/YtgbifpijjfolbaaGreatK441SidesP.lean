/- Lists of runs held against each other; what is told of them (for FnTop). -/
import Derived.Test.YtgbifpijjfolbaaGreatK441RunsP
import Derived.Test.YtgbifpijjfolbaaGreatK441RunsW
import Derived.Test.YtgbifpijjfolbaaGreatK441Bfs
import Derived.Test.YtgbifpijjfolbaaGreatK441All
import Derived.Test.YtgbifpijjfolbaaGreatK441Text
set_option linter.all false
set_option maxHeartbeats 4000000
namespace Go.DM
variable [Tok]
open Go.IntWalk
variable {w h : Int} {g : Nat → Int} {cs : List S}
abbrev art (L : List Run) : Arg := .d (.sl L.length 3 (encX runC L))
theorem sameRuns_gives (L : List Run) (hl : L.length ≤ 100000) : Gives G 445 [art L, art L] (rb true) := by
  refine Gives.by rfl rfl (W.seq ?_)
  repeat' first | ((with_reducible first | apply WR.mv | apply WR.le); exact rfl; exact rfl) | (with_reducible first | apply WR.nil | refine andThen_n ?_ | refine W.seq ?_ | refine W.region ?_ | refine W.skip ?_ | refine W.block ?_) | ((with_reducible apply W.condF); exact rfl) | (intro hb; try (exfalso; omega)) | ((with_reducible apply WR.neq); iterate 3 exact rfl)
  (refine (?_ : W _ (Code.loop _) _ _))
  (refine W.loopM [0, 1] [] [] (fun i : (Nat) => (L.length - i : Nat)) (fun i : (Nat) => (i ≤ L.length : Prop)) (fun i : (Nat) => [(5, .a (.d (.s (.int .i64 (i : Nat)))))]) (fun i : (Nat) => []) 0 (by omega) ⟨rfl, trivial⟩ trivial trivial ?_)
  rintro i σ hP hN; dsimp only [setL, putL] at hP ⊢
  repeat' first | ((with_reducible apply WH.ees); iterate 4 exact rfl) | ((with_reducible first | apply WR.mv | apply WR.le); exact rfl; exact rfl) | ((with_reducible first | apply WH.mv | apply WR.lss); iterate 3 exact rfl) | (with_reducible first | apply WR.nil | refine andThen_n ?_ | refine andThen_x ?_ | refine inB_n ?_ | refine inB_x ?_ | refine W.seq ?_ | refine W.region ?_ | refine W.skip ?_ | refine W.ret ?_ | refine W.exit ?_ | refine W.block ?_ | apply WH.nil | refine W.draw ?_) | ((with_reducible apply W.condT); exact rfl) | ((with_reducible apply W.condF); exact rfl) | ((with_reducible apply Done.f); (intro hh hh2; exact (nomatch hh2)); (focus ((repeat' first | exact all_nil | apply all_cons | exact res_tmp rfl); done)); (focus ((repeat' first | exact all_nil | apply all_cons | exact retOf_s rfl); done)); exact rfl; (focus ((repeat' first | exact outs_nil | apply outs_d); done))) | (intro hb; try (exfalso; omega)) | ((with_reducible apply WH.idn); (iterate 3 exact rfl); omega; (exact Nat.le_of_eq (encX_length runC_len _).symm); exact rfl) | ((with_reducible apply WH.ldd); exact rfl; exact rfl; (first | exact ldRb (by first | omega)); exact rfl) | ((with_reducible apply WR.ad); (iterate 3 exact rfl); (exact i64_in _ (by omega)))
  · (refine W.nxt (i + 1) (by first | omega | (dsimp only; omega)) ?_ ⟨rfl, trivial⟩ trivial ⟨rfl, rfl, trivial⟩ trivial trivial); (try dsimp only)
    omega
  · rfl
def sumT : List Run → Int
  | [] => 0
  | r :: l => r.2 + sumT l
theorem sumT_app : ∀ A B : List Run, sumT (A ++ B) = sumT A + sumT B
  | [], B => by simp [sumT]
  | a :: r, B => by simp only [List.cons_append, sumT, sumT_app r B]; omega
theorem sumT_snoc {L : List Run} {i : Nat} (hi : i < L.length) : sumT (L.take (i + 1)) = sumT (L.take i) + (gRn L i).2 := by
  rw [List.take_add_one, gRn_get hi, sumT_app]
  simp [sumT]
theorem sumT_b : ∀ {L : List Run}, (∀ r ∈ L, 0 ≤ r.2 ∧ r.2 ≤ 10) → 0 ≤ sumT L ∧ sumT L ≤ 10 * L.length
  | [], _ => by simp [sumT]
  | a :: r, h => by
    have h1 := h a (List.mem_cons_self ..)
    have ih := sumT_b (L := r) fun x hx => h x (List.mem_cons_of_mem _ hx)
    simp only [sumT, List.length_cons]
    omega
theorem sumT_runs (P : Cel → Prop) [DecidablePred P] (F : Cel → Nat) : ∀ A : List Cel, sumT ((A.filter fun c => decide (P c)).map fun c => (c, (F c : Int))) = sumF (fun c => if P c then (F c : Int) else 0) A
  | [] => rfl
  | a :: r => by
    have ih := sumT_runs P F r
    rw [List.filter_cons]
    by_cases hp : P a
    · rw [if_pos (by simpa using hp)]
      simp only [List.map_cons, sumT, sumF, if_pos hp, ih]
    · rw [if_neg (by simpa using hp)]
      simp only [sumF, if_neg hp, ih]; omega
theorem ofKind_sum : ((ofKind w h g 0).length : Int) = sumF (isOne w h g) (allC w h) := by
  rw [← those_grass, ← sumF_one]
  unfold those
  rw [sumF_filter]
  rfl
theorem runsL_sum (hs : 0 ≤ w ∧ 0 ≤ h) : sumT (runsL w h g (allC w h)) = (ofKind w h g 0).length := by
  rw [ofKind_sum, ← runs_sum hs]
  exact sumT_runs (RunBeg w h g) (runAt w h g) (allC w h)
theorem runsL_b (hs : 0 ≤ w ∧ w ≤ 10 ∧ 0 ≤ h ∧ h ≤ 10) : ∀ r ∈ runsL w h g (allC w h), 0 ≤ r.2 ∧ r.2 ≤ 10 := fun r hr => by
  obtain ⟨c, hc, rfl⟩ := List.mem_map.1 hr
  have h1 := allC_mem (List.mem_filter.1 hc).1
  simp only [Has] at h1
  have := runAt_le (w := w) (h := h) (g := g) (c := c) (by omega)
  simp only
  omega
end Go.DM

/- Steps from a cell: the program's side. -/
set_option maxHeartbeats 4000000
namespace Go.DM
variable [Tok]
open Go.IntWalk
variable {w h : Int} {g : Nat → Int} {cs : List S}
def okP (w h : Int) (P : Cel → Prop) (c : Cel) : Prop := Has w h c.1 c.2 ∧ P c
instance (w h : Int) (P : Cel → Prop) [DecidablePred P] : DecidablePred (okP w h P) := fun c => inferInstanceAs (Decidable (_ ∧ _))
theorem drop_gC {l : List Cel} {k : Nat} (hk : k < l.length) : l.drop k = gC l k :: l.drop (k + 1) := by
  have h1 := gC_get hk
  obtain ⟨h2, h3⟩ := List.getElem?_eq_some_iff.1 h1
  rw [List.drop_eq_getElem_cons h2, h3]
end Go.DM

/- The reference's code of cells that have to be open. -/
set_option maxHeartbeats 4000000
namespace Go.DM
variable [Tok]
open Go.IntWalk
variable {w h : Int} {g : Nat → Int} {cs : List S}
abbrev InB (c : Cel) : Prop := -128 ≤ c.1 ∧ c.1 ≤ 127 ∧ -128 ≤ c.2 ∧ c.2 ≤ 127
end Go.DM

/- Sides of cells; the border: both sides. -/
set_option maxHeartbeats 4000000
namespace Go.DM
variable [Tok]
open Go.IntWalk
variable {w h : Int} {g : Nat → Int} {cs : List S}
def sideOf (w h : Int) (g : Nat → Int) (e : Cel) : Nat := if Has w h e.1 e.2 then (g (ix e)).toNat else 4
def sideStep (w h : Int) (g : Nat → Int) (f : Nat → Int) (e : Cel) : Nat → Int := gset f (sideOf w h g e) (f (sideOf w h g e) + 1)
def sides (w h : Int) (g : Nat → Int) (c : Cel) : Nat → Int := (Near c.1 c.2).foldl (sideStep w h g) fun _ => 0
theorem sideOf_yes {e : Cel} (hh : Has w h e.1 e.2) : sideOf w h g e = (g (10 * e.2.toNat + e.1.toNat)).toNat := if_pos hh
theorem sideOf_no {e : Cel} (hh : ¬ Has w h e.1 e.2) : sideOf w h g e = 4 := if_neg hh
theorem l05Near_gives (x y : Int) (hx : -127 ≤ x ∧ x ≤ 126 ∧ -127 ≤ y ∧ y ≤ 126) : Gives G 113 [ac x y] ⟨[.own 4 2 (encC (Near x y))], []⟩ := by
  refine Gives.by rfl rfl (W.seq ?_)
  repeat' first | ((with_reducible first | apply WR.lx | apply WR.fa | apply WR.mv); exact rfl; exact rfl) | ((with_reducible apply WR.bC); iterate 3 exact rfl) | (with_reducible first | apply WR.nil | refine andThen_n ?_ | refine W.seq ?_ | refine W.region ?_ | refine W.ret ?_) | ((with_reducible apply Done.f); (intro hh hh2; exact (nomatch hh2)); (focus ((repeat' first | exact all_nil | apply all_cons | exact res_tmp rfl | exact rfl); done)); (focus ((repeat' first | exact all_nil | apply all_cons | exact retOf_o rfl rfl (by first | exact encC_length _ | exact rfl) | exact rfl); done)); exact rfl; (focus ((repeat' first | exact outs_nil | apply outs_d | exact rfl); done))) | ((with_reducible apply WR.ad); (iterate 3 exact rfl); (exact i8_in _ (by omega))) | ((with_reducible apply WR.sb); (iterate 3 exact rfl); (exact i8_in _ (by omega))) | ((with_reducible apply WR.bx); exact rfl; exact rfl; exact (by first | exact encC_length _ | exact rfl); exact rfl) | ((with_reducible apply WR.bs4); (iterate 5 exact rfl); exact rfl)
  all_goals rfl
theorem around_gives (l : IsLawn w h g cs) (hs : w ≤ 10 ∧ h ≤ 10) (hg : ∀ k, k < 100 → g k ≤ 3) (c : Cel) (hc : 0 ≤ c.1 ∧ c.1 < 10 ∧ 0 ≤ c.2 ∧ c.2 < 10) : Gives G 90 [aa cs, ac c.1 c.2] ⟨[.agg (rowI .i64 5 (sides w h g c))], []⟩ := by
  have hsd : sides w h g c = (Near c.1 c.2).foldl (sideStep w h g) fun _ => 0 := rfl
  have hlen4 : (Near c.1 c.2).length = 4 := rfl
  refine Gives.by rfl rfl (W.seq ?_)
  repeat' first | ((with_reducible apply WR.c_o (f := 89) (fn := Code.f89)); (iterate 3 exact rfl); exact rfl; (focus ((repeat' first | exact args_nil | apply args_d | exact toD_d rfl | exact rfl); done)); exact beside_gives _ _ (by omega); exact rfl) | ((with_reducible apply WR.ld); (iterate 3 exact rfl); (exact ld2)) | ((with_reducible apply WR.st); (iterate 3 exact rfl); exact storeAll (by first | exact IsLawn.len (by assumption) | exact rfl) (by first | exact IsLawn.len (by assumption) | exact rfl)) | ((with_reducible apply WR.al); exact rfl; exact rfl) | (with_reducible first | apply WR.nil | refine andThen_n ?_ | refine W.seq ?_ | refine W.region ?_ | refine W.block ?_) | ((with_reducible first | apply WR.mv | apply WR.bu | apply WR.le); exact rfl; exact rfl) | ((with_reducible apply WR.bx); exact rfl; exact rfl; exact (by first | exact IsLawn.len (by assumption) | exact rfl); exact rfl)
  (refine (?_ : W _ (Code.loop _) _ _))
  (refine W.loopM [2, 4, 5, 10, 11] [2, 4] [7] (fun ((i, f) : (Nat) × (Nat → Int)) => (4 - i : Nat)) (fun ((i, f) : (Nat) × (Nat → Int)) => (i ≤ 4 ∧ f = ((Near c.1 c.2).take i).foldl (sideStep w h g) (fun _ => 0) ∧ ∀ k, 0 ≤ f k ∧ f k ≤ i : Prop)) (fun z : (Nat) × (Nat → Int) => match z with | (i, f) => [(12, .a (.d (.s (.int .i64 (i : Nat)))))]) (fun z : (Nat) × (Nat → Int) => match z with | (i, f) => [(5, .flat false (rowI .i64 5 f)), (10, .flat false (encC (Near c.1 c.2)))]) (0, fun _ => 0) (⟨by omega, rfl, fun k => by simp⟩) ⟨rfl, trivial⟩ ⟨rfl, rfl, trivial⟩ ⟨np, trivial⟩ ?_)
  rintro ⟨i, f⟩ σ hP hN; dsimp only [setL, putL] at hP ⊢; obtain ⟨n7, hN⟩ := hN
  obtain ⟨hi, hf, hb0⟩ := hP
  by_cases hi4 : i < 4
  · have hnb := Near_b (gC_mem (l := Near c.1 c.2) (k := i) (by omega))
    have hst := fold_snoc (f := sideStep w h g) (fun _ => 0) (gC_get (l := Near c.1 c.2) (k := i) (by omega))
    rw [← hf] at hst
    have hlb := l.cb (10 * (gC (Near c.1 c.2) i).2.toNat + (gC (Near c.1 c.2) i).1.toNat)
    have hge := hg (10 * (gC (Near c.1 c.2) i).2.toNat + (gC (Near c.1 c.2) i).1.toNat)
    have hfb := hb0 (g (10 * (gC (Near c.1 c.2) i).2.toNat + (gC (Near c.1 c.2) i).1.toNat)).toNat
    have hf4 := hb0 (Int.toNat 4)
    have hstep : ∀ k, 0 ≤ sideStep w h g f (gC (Near c.1 c.2) i) k ∧ sideStep w h g f (gC (Near c.1 c.2) i) k ≤ (i + 1 : Nat) := fun k => by
      have h1 := hb0 k
      have h2 := hb0 (sideOf w h g (gC (Near c.1 c.2) i))
      simp only [sideStep, gset]; split <;> omega
    repeat' first | ((with_reducible apply WR.c_p (f := 62) (fn := Code.f62)); (iterate 3 exact rfl); exact rfl; (focus ((repeat' first | exact args_nil | apply args_d | exact toD_d rfl | exact rfl); done)); exact has_gives (by assumption) _ _) | ((with_reducible apply WR.c_s (f := 100) (fn := Code.f100)); (iterate 3 exact rfl); exact rfl; (focus ((repeat' first | exact args_nil | apply args_d | exact toD_d rfl | exact rfl); done)); exact kind_gives (by assumption) _ _ (by omega)) | ((with_reducible apply WR.ld); (iterate 3 exact rfl); (first | exact ld2 | exact loadC_all (IsLawn.len (by assumption)) | exact ldC (by first | omega) | exact ldR (by omega))) | ((with_reducible apply WR.st); (iterate 3 exact rfl); exact st2) | ((with_reducible apply WR.st); iterate 4 exact rfl) | ((with_reducible apply WR.st); (iterate 3 exact rfl); exact stR (by omega)) | ((with_reducible first | apply WR.ia | apply WR.isn); (iterate 3 exact rfl); omega) | ((with_reducible apply WR.ad); (iterate 3 exact rfl); (first | exact i64_in _ (by omega) | assumption)) | ((with_reducible apply WR.al); exact rfl; (first | exact rfl | assumption)) | (with_reducible first | apply WR.nil | refine andThen_n ?_ | refine inB_n ?_ | refine W.seq ?_ | refine W.region ?_ | refine W.skip ?_ | refine W.block ?_) | ((with_reducible apply W.condT); exact rfl) | ((with_reducible apply W.condF); exact rfl) | (intro hb; try (exfalso; omega)) | ((with_reducible apply WR.mv); exact rfl; exact rfl) | ((with_reducible apply WR.lss); iterate 3 exact rfl)
    · have hH : Has w h (gC (Near c.1 c.2) i).1 (gC (Near c.1 c.2) i).2 := by assumption
      (refine W.nxt (i + 1, gset f (g (10 * (gC (Near c.1 c.2) i).2.toNat + (gC (Near c.1 c.2) i).1.toNat)).toNat (f (g (10 * (gC (Near c.1 c.2) i).2.toNat + (gC (Near c.1 c.2) i).1.toNat)).toNat + 1)) (by first | omega | (dsimp only; omega)) ?_ ⟨rfl, trivial⟩ ⟨rfl, rfl, trivial⟩ ⟨rfl, rfl, rfl, rfl, rfl, trivial⟩ ⟨rfl, rfl, trivial⟩ ⟨np, trivial⟩); (try dsimp only)
      rw [sideStep, sideOf_yes hH] at hst hstep
      exact ⟨by omega, hst.symm, hstep⟩
    · have hH : ¬ Has w h (gC (Near c.1 c.2) i).1 (gC (Near c.1 c.2) i).2 := by assumption
      (refine W.nxt (i + 1, gset f (Int.toNat 4) (f (Int.toNat 4) + 1)) (by first | omega | (dsimp only; omega)) ?_ ⟨rfl, trivial⟩ ⟨rfl, rfl, trivial⟩ ⟨rfl, rfl, rfl, rfl, rfl, trivial⟩ ⟨rfl, rfl, trivial⟩ ⟨np, trivial⟩); (try dsimp only)
      rw [sideStep, sideOf_no hH] at hst hstep
      exact ⟨by omega, hst.symm, hstep⟩
  · rw [show (Near c.1 c.2).take i = Near c.1 c.2 from List.take_of_length_le (by omega), ← hsd] at hf
    repeat' first | ((with_reducible apply WR.ld); (iterate 3 exact rfl); (exact loadC_all rowI_len)) | ((with_reducible apply WR.st); (iterate 3 exact rfl); exact storeAll (by first | exact rowI_len | exact rfl) (by first | exact rowI_len | exact rfl)) | (with_reducible first | apply WR.nil | refine andThen_n ?_ | refine andThen_x ?_ | refine inB_x ?_ | refine W.seq ?_ | refine W.region ?_ | refine W.ret ?_ | refine W.exit ?_) | ((with_reducible apply W.condF); exact rfl) | ((with_reducible apply Done.f); (intro hh hh2; exact (nomatch hh2)); (focus ((repeat' first | exact all_nil | apply all_cons | exact res_cell rfl rfl (by first | exact rowI_len | exact rfl) | exact rfl); done)); (focus ((repeat' first | exact all_nil | apply all_cons | exact retOf_a rfl | exact rfl); done)); exact rfl; (focus ((repeat' first | exact outs_nil | apply outs_d | exact rfl); done))) | (intro hb; try (exfalso; omega)) | ((with_reducible apply WR.lss); iterate 3 exact rfl)
    rw [hf]; rfl
theorem l05At_gives (l : IsLawn w h g cs) (hs : w ≤ 10 ∧ h ≤ 10) (hg : ∀ k, k < 100 → g k ≤ 3) (c : Cel) (hc : 0 ≤ c.1 ∧ c.1 < 10 ∧ 0 ≤ c.2 ∧ c.2 < 10) : Gives G 86 [ar cs, ac c.1 c.2] ⟨[.agg (rowI .i64 5 (sides w h g c))], []⟩ := by
  have hsd : sides w h g c = (Near c.1 c.2).foldl (sideStep w h g) fun _ => 0 := rfl
  have hlen4 : (Near c.1 c.2).length = 4 := rfl
  refine Gives.by rfl rfl (W.seq ?_)
  repeat' first | ((with_reducible apply WR.c_o (f := 113) (fn := Code.f113)); (iterate 3 exact rfl); exact rfl; (focus ((repeat' first | exact args_nil | apply args_d | exact toD_d rfl | exact rfl); done)); exact l05Near_gives _ _ (by omega); exact rfl) | ((with_reducible first | apply WR.mv | apply WR.bu); exact rfl; exact rfl) | ((with_reducible apply WR.ld); (iterate 3 exact rfl); (exact ld2)) | ((with_reducible apply WR.st); (iterate 3 exact rfl); exact storeAll (by first | exact rfl) (by first | exact rfl)) | (with_reducible first | apply WR.nil | refine andThen_n ?_ | refine W.seq ?_ | refine W.region ?_ | refine W.block ?_) | ((with_reducible apply WR.al); exact rfl; exact rfl) | ((with_reducible apply WR.bx); exact rfl; exact rfl; exact (by first | exact rfl); exact rfl)
  (refine (?_ : W _ (Code.loop _) _ _))
  (refine W.loopM [0, 4, 5, 6] [4] [] (fun ((i, f) : (Nat) × (Nat → Int)) => (4 - i : Nat)) (fun ((i, f) : (Nat) × (Nat → Int)) => (i ≤ 4 ∧ f = ((Near c.1 c.2).take i).foldl (sideStep w h g) (fun _ => 0) ∧ ∀ k, 0 ≤ f k ∧ f k ≤ i : Prop)) (fun z : (Nat) × (Nat → Int) => match z with | (i, f) => [(7, .a (.d (.s (.int .i64 (i : Nat)))))]) (fun z : (Nat) × (Nat → Int) => match z with | (i, f) => [(5, .flat false (rowI .i64 5 f)), (10, .flat false (encC (Near c.1 c.2)))]) (0, fun _ => 0) (⟨by omega, rfl, fun k => by simp⟩) ⟨rfl, trivial⟩ ⟨rfl, rfl, trivial⟩ trivial ?_)
  rintro ⟨i, f⟩ σ hP hN; dsimp only [setL, putL] at hP ⊢
  obtain ⟨hi, hf, hb0⟩ := hP
  by_cases hi4 : i < 4
  · have hnb := Near_b (gC_mem (l := Near c.1 c.2) (k := i) (by omega))
    have hst := fold_snoc (f := sideStep w h g) (fun _ => 0) (gC_get (l := Near c.1 c.2) (k := i) (by omega))
    rw [← hf] at hst
    have hlb := l.cb (10 * (gC (Near c.1 c.2) i).2.toNat + (gC (Near c.1 c.2) i).1.toNat)
    have hge := hg (10 * (gC (Near c.1 c.2) i).2.toNat + (gC (Near c.1 c.2) i).1.toNat)
    have hfb := hb0 (g (10 * (gC (Near c.1 c.2) i).2.toNat + (gC (Near c.1 c.2) i).1.toNat)).toNat
    have hf4 := hb0 (Int.toNat 4)
    have hstep : ∀ k, 0 ≤ sideStep w h g f (gC (Near c.1 c.2) i) k ∧ sideStep w h g f (gC (Near c.1 c.2) i) k ≤ (i + 1 : Nat) := fun k => by
      have h1 := hb0 k
      have h2 := hb0 (sideOf w h g (gC (Near c.1 c.2) i))
      simp only [sideStep, gset]; split <;> omega
    repeat' first | ((with_reducible apply WR.c_p (f := 50) (fn := Code.f50)); (iterate 3 exact rfl); exact rfl; (focus ((repeat' first | exact args_nil | apply args_d | exact toD_d rfl | exact rfl); done)); exact l01Is_gives (by assumption) _ _ (by omega)) | ((with_reducible apply WR.c_s (f := 61) (fn := Code.f61)); (iterate 3 exact rfl); exact rfl; (focus ((repeat' first | exact args_nil | apply args_d | exact toD_d rfl | exact rfl); done)); exact l01At_gives (by assumption) _ _ (by omega)) | ((with_reducible first | apply WR.mv | apply WR.le); exact rfl; exact rfl) | ((with_reducible apply WR.ld); (iterate 3 exact rfl); (first | exact ldC (by first | omega) | exact ldR (by omega))) | ((with_reducible first | apply WR.ia | apply WR.isn); (iterate 3 exact rfl); omega) | ((with_reducible apply WR.st); iterate 4 exact rfl) | ((with_reducible apply WR.st); (iterate 3 exact rfl); exact stR (by omega)) | ((with_reducible apply WR.ad); (iterate 3 exact rfl); (exact i64_in _ (by omega))) | (with_reducible first | apply WR.nil | refine andThen_n ?_ | refine inB_n ?_ | refine W.seq ?_ | refine W.region ?_ | refine W.skip ?_ | refine W.block ?_) | ((with_reducible apply W.condT); exact rfl) | ((with_reducible apply W.condF); exact rfl) | (intro hb; try (exfalso; omega)) | ((with_reducible apply WR.lss); iterate 3 exact rfl)
    · have hH : Has w h (gC (Near c.1 c.2) i).1 (gC (Near c.1 c.2) i).2 := by assumption
      (refine W.nxt (i + 1, gset f (g (10 * (gC (Near c.1 c.2) i).2.toNat + (gC (Near c.1 c.2) i).1.toNat)).toNat (f (g (10 * (gC (Near c.1 c.2) i).2.toNat + (gC (Near c.1 c.2) i).1.toNat)).toNat + 1)) (by first | omega | (dsimp only; omega)) ?_ ⟨rfl, trivial⟩ ⟨rfl, rfl, trivial⟩ ⟨rfl, rfl, rfl, rfl, trivial⟩ ⟨rfl, trivial⟩ trivial); (try dsimp only)
      rw [sideStep, sideOf_yes hH] at hst hstep
      exact ⟨by omega, hst.symm, hstep⟩
    · have hH : ¬ Has w h (gC (Near c.1 c.2) i).1 (gC (Near c.1 c.2) i).2 := by assumption
      (refine W.nxt (i + 1, gset f (Int.toNat 4) (f (Int.toNat 4) + 1)) (by first | omega | (dsimp only; omega)) ?_ ⟨rfl, trivial⟩ ⟨rfl, rfl, trivial⟩ ⟨rfl, rfl, rfl, rfl, trivial⟩ ⟨rfl, trivial⟩ trivial); (try dsimp only)
      rw [sideStep, sideOf_no hH] at hst hstep
      exact ⟨by omega, hst.symm, hstep⟩
  · rw [show (Near c.1 c.2).take i = Near c.1 c.2 from List.take_of_length_le (by omega), ← hsd] at hf
    repeat' first | ((with_reducible first | apply WR.mv | apply WR.le); exact rfl; exact rfl) | ((with_reducible apply WR.ld); (iterate 3 exact rfl); (exact loadC_all rowI_len)) | ((with_reducible apply WR.st); (iterate 3 exact rfl); exact storeAll (by first | exact rowI_len | exact rfl) (by first | exact rowI_len | exact rfl)) | (with_reducible first | apply WR.nil | refine andThen_n ?_ | refine andThen_x ?_ | refine inB_x ?_ | refine W.seq ?_ | refine W.region ?_ | refine W.ret ?_ | refine W.exit ?_) | ((with_reducible apply W.condF); exact rfl) | ((with_reducible apply Done.f); (intro hh hh2; exact (nomatch hh2)); (focus ((repeat' first | exact all_nil | apply all_cons | exact res_cell rfl rfl (by first | exact rowI_len | exact rfl) | exact rfl); done)); (focus ((repeat' first | exact all_nil | apply all_cons | exact retOf_a rfl | exact rfl); done)); exact rfl; (focus ((repeat' first | exact outs_nil | apply outs_d | exact rfl); done))) | (intro hb; try (exfalso; omega)) | ((with_reducible apply WR.lss); iterate 3 exact rfl)
    rw [hf]; rfl
def bordP (w h : Int) (g : Nat → Int) (c : Cel) : Prop := Is w h g 0 c.1 c.2 ∧ sides w h g c 0 < 4
instance (w h : Int) (g : Nat → Int) : DecidablePred (bordP w h g) := fun c => inferInstanceAs (Decidable (_ ∧ _))
def border (w h : Int) (g : Nat → Int) (b : Bool) : List Cel := (ofKind w h g 0).filter fun c => decide (sides w h g c 0 < 4) == b
end Go.DM

/- Sides by kinds are four for each cell of grass: plain facts (for FnTop). -/
set_option maxHeartbeats 4000000
namespace Go.DM
variable [Tok]
open Go.IntWalk
variable {w h : Int} {g : Nat → Int} {cs : List S}
def sum5 (f : Nat → Int) : Int := f 0 + f 1 + f 2 + f 3 + f 4
theorem sideOf_le (hg : ∀ k, k < 100 → g k ≤ 3) (hs : w ≤ 10 ∧ h ≤ 10) (e : Cel) : sideOf w h g e ≤ 4 := by
  unfold sideOf
  split
  · rename_i hh
    simp only [Has] at hh
    have := hg (ix e) (by simp only [ix]; omega)
    omega
  · exact Nat.le_refl _
theorem sum5_step (f : Nat → Int) (e : Cel) (h4 : sideOf w h g e ≤ 4) : sum5 (sideStep w h g f e) = sum5 f + 1 := by
  unfold sum5 sideStep
  generalize sideOf w h g e = k at h4
  obtain rfl | rfl | rfl | rfl | rfl : k = 0 ∨ k = 1 ∨ k = 2 ∨ k = 3 ∨ k = 4 := by omega
  all_goals
    simp only [gset]
    simp
    omega
theorem sum5_fold (h4 : ∀ e, sideOf w h g e ≤ 4) : ∀ (L : List Cel) (f : Nat → Int), sum5 (L.foldl (sideStep w h g) f) = sum5 f + L.length
  | [], f => by simp
  | e :: r, f => by
    rw [List.foldl_cons, sum5_fold h4 r, sum5_step f e (h4 e), List.length_cons]
    omega
theorem sum5_sides (h4 : ∀ e, sideOf w h g e ≤ 4) (c : Cel) : sum5 (sides w h g c) = 4 := by
  unfold sides
  rw [sum5_fold h4]
  rfl
def sidesA (w h : Int) (g : Nat → Int) (L : List Cel) : Nat → Int := L.foldl (fun f c k => f k + sides w h g c k) fun _ => 0
theorem sum5_all (h4 : ∀ e, sideOf w h g e ≤ 4) : ∀ (L : List Cel) (f : Nat → Int), sum5 (L.foldl (fun f c k => f k + sides w h g c k) f) = sum5 f + 4 * L.length
  | [], f => by simp
  | c :: r, f => by
    rw [List.foldl_cons, sum5_all h4 r, List.length_cons]
    have h1 := sum5_sides h4 c
    simp only [sum5] at h1 ⊢
    push_cast
    omega
theorem sidesA_sum (hg : ∀ k, k < 100 → g k ≤ 3) (hs : w ≤ 10 ∧ h ≤ 10) (L : List Cel) : sum5 (sidesA w h g L) = 4 * L.length := by
  have := sum5_all (sideOf_le hg hs) L fun _ => 0
  unfold sidesA
  rw [this]
  simp [sum5]
end Go.DM
