/- Sides of all grass, both sides; cells counted by kind (for FnTop). -/
import Derived.Test.YtgbifpijjfolbaaGreatK441RunsW
import Derived.Test.YtgbifpijjfolbaaGreatK441SidesP
set_option linter.all false
set_option maxHeartbeats 4000000
namespace Go.DM
variable [Tok]
open Go.IntWalk
variable {w h : Int} {g : Nat → Int} {cs : List S}
theorem sidesF_b : ∀ (L : List Cel) (f : Nat → Int) (n : Int), (∀ k, 0 ≤ f k ∧ f k ≤ n) → ∀ k, 0 ≤ L.foldl (sideStep w h g) f k ∧ L.foldl (sideStep w h g) f k ≤ n + L.length
  | [], f, n, hf, k => by have := hf k; simp; exact this
  | e :: r, f, n, hf, k => by
    have := sidesF_b r (sideStep w h g f e) (n + 1) (fun j => by
      have h1 := hf j
      have h2 := hf (sideOf w h g e)
      simp only [sideStep, gset]
      split <;> omega) k
    rw [List.foldl_cons, List.length_cons]
    omega
theorem sides_b (c : Cel) (k : Nat) : 0 ≤ sides w h g c k ∧ sides w h g c k ≤ 4 := by
  have := sidesF_b (w := w) (h := h) (g := g) (Near c.1 c.2) (fun _ => 0) 0 (fun _ => by omega) k
  rw [show (Near c.1 c.2).length = 4 from rfl] at this
  unfold sides
  omega
theorem sidesA_snoc {A : List Cel} {i : Nat} (hi : i < A.length) (k : Nat) : sidesA w h g (A.take (i + 1)) k = sidesA w h g (A.take i) k + sides w h g (gC A i) k := by
  unfold sidesA
  rw [List.take_add_one, gC_get hi, Option.toList_some, List.foldl_append]; rfl
def mixS (f s : Nat → Int) (j : Nat) : Nat → Int := fun k => if k < j then f k + s k else f k
theorem mixS_at (f s : Nat → Int) (j : Nat) : mixS f s j j = f j := by simp [mixS]
theorem mixS_step (f s : Nat → Int) (j : Nat) : gset (mixS f s j) j (f j + s j) = mixS f s (j + 1) := by
  funext k
  simp only [gset, mixS]
  by_cases e : k = j
  · subst e; simp
  · rw [if_neg e]
    by_cases e2 : k < j
    · rw [if_pos e2, if_pos (by omega)]
    · rw [if_neg e2, if_neg (by omega)]
def sidesRes (f : Nat → Int) : Res := ⟨[.agg (rowI .i64 5 f)], []⟩
def sides2Res (f : Nat → Int) : Res := ⟨[.agg (rowI .i64 5 f), .s (.int .i64 0)], []⟩
theorem sidesL_gives (l : IsLawn w h g cs) (hs : 0 ≤ w ∧ w ≤ 10 ∧ 0 ≤ h ∧ h ≤ 10) (hg : ∀ k, k < 100 → g k ≤ 3) : Gives G 453 [aa cs] (sidesRes (sidesA w h g (ofKind w h g 0))) := by
  have hall := those_gives l hs (holds_grass l (by omega)) (fun _ _ => trivial)
  rw [those_grass] at hall
  have hal : (ofKind w h g 0).length ≤ 100 := Nat.le_trans (List.length_filter_le ..) (allC_len (w := w) (h := h) (by omega))
  have hmem : ∀ c ∈ ofKind w h g 0, Has w h c.1 c.2 := fun c hc => allC_mem (List.mem_filter.1 hc).1
  generalize ofKind w h g 0 = A at hall hal hmem ⊢
  unfold sidesRes
  refine Gives.by rfl rfl (W.seq ?_)
  repeat' first | ((with_reducible apply WR.c_o (f := 31) (fn := Code.f31)); (iterate 3 exact rfl); exact rfl; (focus ((repeat' first | exact args_nil | apply args_d | exact toD_d rfl | (apply toD_clo; exact rfl) | exact all_nil | apply all_cons | exact rfl); done)); exact hall; exact rfl) | ((with_reducible first | apply WR.mv | apply WR.mf | apply WR.bu | apply WR.le); exact rfl; exact rfl) | ((with_reducible apply WR.ld); (iterate 3 exact rfl); (exact loadC_all (IsLawn.len (by assumption)))) | ((with_reducible apply WR.st); (iterate 3 exact rfl); exact storeAll (by first | exact IsLawn.len (by assumption) | exact rfl) (by first | exact IsLawn.len (by assumption) | exact rfl)) | ((with_reducible apply WR.al); exact rfl; exact rfl) | (with_reducible first | apply WR.nil | refine andThen_n ?_ | refine W.seq ?_ | refine W.region ?_ | refine W.block ?_) | ((with_reducible apply WR.bx); exact rfl; exact rfl; exact (by first | exact IsLawn.len (by assumption) | exact rfl); exact rfl)
  (refine (?_ : W _ (Code.loop _) _ _))
  (refine W.loopM [1, 2, 3, 12, 13] [1, 2, 12] [5] (fun ((i, f) : (Nat) × (Nat → Int)) => (A.length - i : Nat)) (fun ((i, f) : (Nat) × (Nat → Int)) => (i ≤ A.length ∧ (∀ k, f k = sidesA w h g (A.take i) k ∨ 5 ≤ k) ∧ ∀ k, 0 ≤ f k ∧ f k ≤ 4 * i : Prop)) (fun z : (Nat) × (Nat → Int) => match z with | (i, f) => [(14, .a (.d (.s (.int .i64 (i : Nat)))))]) (fun z : (Nat) × (Nat → Int) => match z with | (i, f) => [(3, .flat false (rowI .i64 5 f))]) (0, fun _ => 0) (⟨by omega, fun k => .inl rfl, fun k => by simp⟩) ⟨rfl, trivial⟩ ⟨rfl, trivial⟩ ⟨np, trivial⟩ ?_)
  rintro ⟨i, f⟩ σ hP hN; dsimp only [setL, putL] at hP ⊢; obtain ⟨n5, hN⟩ := hN
  obtain ⟨hi, hf, hb0⟩ := hP
  by_cases hil : i < A.length
  · have hc := hmem _ (gC_mem hil)
    have hsn := fun k => sidesA_snoc (w := w) (h := h) (g := g) hil k
    have hsb := fun k => sides_b (w := w) (h := h) (g := g) (gC A i) k
    have har := around_gives l (by omega) hg (gC A i) (by omega)
    generalize sides w h g (gC A i) = s at hsn hsb har
    repeat' first | ((with_reducible apply WR.c_a (f := 90) (fn := Code.f90)); (iterate 3 exact rfl); exact rfl; (focus ((repeat' first | exact args_nil | apply args_d | exact toD_d rfl | exact rfl); done)); exact har) | ((with_reducible apply WR.mv); exact rfl; exact rfl) | ((with_reducible apply WR.ld); (iterate 3 exact rfl); (first | exact ld2 | exact loadC_all (IsLawn.len (by assumption)) | exact ldC (by first | omega))) | ((with_reducible apply WR.st); (iterate 3 exact rfl); exact st2) | ((with_reducible apply WR.al); exact rfl; (first | exact rfl | assumption)) | (with_reducible first | apply WR.nil | refine andThen_n ?_ | refine W.seq ?_ | refine W.region ?_ | refine W.skip ?_ | refine W.block ?_) | ((with_reducible apply W.condT); exact rfl) | (intro hb; try (exfalso; omega)) | ((with_reducible apply WR.lss); iterate 3 exact rfl) | ((with_reducible apply WR.isn); (iterate 3 exact rfl); omega)
    (refine (?_ : W _ (Code.loop _) _ _))
    (refine W.loopM [1, 2, 3, 12, 13, 14, 20] [1, 2, 12] [5] (fun j : (Nat) => (5 - j : Nat)) (fun j : (Nat) => (j ≤ 5 : Prop)) (fun j : (Nat) => [(21, .a (.d (.s (.int .i64 (j : Nat)))))]) (fun j : (Nat) => [(3, .flat false (rowI .i64 5 (mixS f s j)))]) 0 (by omega) ⟨rfl, trivial⟩ ⟨rfl, trivial⟩ ⟨np, trivial⟩ ?_)
    rintro j σ hP hN; dsimp only [setL, putL] at hP ⊢; obtain ⟨n5, hN⟩ := hN
    by_cases hj : j < 5
    · have h1 := hb0 j
      have h2 := hsb j
      have h3 : IntKind.i64.wrap (mixS f s j ((j : Nat) : Int).toNat + s ((j : Nat) : Int).toNat) = mixS f s j ((j : Nat) : Int).toNat + s ((j : Nat) : Int).toNat := by
        rw [Int.toNat_natCast, mixS_at]
        exact i64_in _ (by omega)
      repeat' first | ((with_reducible apply WR.mv); exact rfl; exact rfl) | ((with_reducible apply WR.ld); (iterate 3 exact rfl); (first | exact ldR (by omega) | exact ldRd (by omega))) | ((with_reducible apply WR.st); (iterate 3 exact rfl); exact stR (by omega)) | ((with_reducible apply WR.ad); (iterate 3 exact rfl); (first | exact i64_in _ (by omega) | assumption)) | (with_reducible first | apply WR.nil | refine andThen_n ?_ | refine inB_n ?_ | refine W.seq ?_ | refine W.region ?_ | refine W.skip ?_ | refine W.block ?_) | ((with_reducible apply W.condT); exact rfl) | (intro hb; try (exfalso; omega)) | ((with_reducible apply WR.lss); iterate 3 exact rfl) | ((with_reducible apply WR.ia); (iterate 3 exact rfl); omega) | ((with_reducible apply WR.ga); (iterate 3 exact rfl); omega; (first | exact ldR (by omega) | exact ldRd (by omega)))
      rw [Int.toNat_natCast, mixS_at, mixS_step]
      (refine W.nxt (j + 1) (by first | omega | (dsimp only; omega)) ?_ ⟨rfl, trivial⟩ ⟨rfl, trivial⟩ ⟨rfl, rfl, rfl, rfl, rfl, rfl, rfl, trivial⟩ ⟨rfl, rfl, rfl, trivial⟩ ⟨np, trivial⟩); (try dsimp only)
      omega
    · obtain rfl : j = 5 := by omega
      repeat' first | ((with_reducible apply WR.mv); exact rfl; exact rfl) | ((with_reducible apply WR.ad); (iterate 3 exact rfl); (exact i64_in _ (by omega))) | (with_reducible first | apply WR.nil | refine andThen_n ?_ | refine andThen_x ?_ | refine inB_n ?_ | refine inB_x ?_ | refine W.seq ?_ | refine W.region ?_ | refine W.exit ?_) | ((with_reducible apply W.condF); exact rfl) | (intro hb; try (exfalso; omega)) | ((with_reducible apply WR.lss); iterate 3 exact rfl)
      (refine W.nxt (i + 1, mixS f s 5) (by first | omega | (dsimp only; omega)) ?_ ⟨rfl, trivial⟩ ⟨rfl, trivial⟩ ⟨rfl, rfl, rfl, rfl, rfl, trivial⟩ ⟨rfl, rfl, rfl, trivial⟩ ⟨np, trivial⟩); (try dsimp only)
      refine ⟨by omega, fun k => ?_, fun k => ?_⟩
      · by_cases hk : k < 5
        · left
          rw [hsn, mixS, if_pos hk]
          rcases hf k with e | e
          · rw [e]
          · omega
        · right; omega
      · have h1 := hb0 k
        have h2 := hsb k
        simp only [mixS]
        split <;> omega
  · repeat' first | ((with_reducible apply WR.ld); (iterate 3 exact rfl); (exact loadC_all rowI_len)) | ((with_reducible apply WR.st); (iterate 3 exact rfl); exact storeAll (by first | exact rowI_len | exact rfl) (by first | exact rowI_len | exact rfl)) | (with_reducible first | apply WR.nil | refine andThen_n ?_ | refine andThen_x ?_ | refine inB_x ?_ | refine W.seq ?_ | refine W.region ?_ | refine W.ret ?_ | refine W.exit ?_) | ((with_reducible apply W.condF); exact rfl) | ((with_reducible apply Done.f); (intro hh hh2; exact (nomatch hh2)); (focus ((repeat' first | exact all_nil | apply all_cons | exact res_cell rfl rfl (by first | exact rowI_len | exact rfl) | exact rfl); done)); (focus ((repeat' first | exact all_nil | apply all_cons | exact retOf_a rfl | exact rfl); done)); exact rfl; (focus ((repeat' first | exact outs_nil | apply outs_d | exact rfl); done))) | (intro hb; try (exfalso; omega)) | ((with_reducible apply WR.lss); iterate 3 exact rfl)
    rw [List.take_of_length_le (by omega)] at hf
    rw [rowI_congr (fun k hk => (hf k).resolve_right (by omega))]
    rfl
theorem sidesOf_gives (l : IsLawn w h g cs) (hok : LawnOk w h g) : Gives G 446 [aa cs] (sides2Res (sidesA w h g (ofKind w h g 0))) := by
  have hs := hok.1
  have hs2 := hok.2.1
  have h1 := sidesL_gives l (by omega) (fun k hk => (hok.2.2 k hk).1)
  have h2 := validLawn_gives l
  rw [decide_eq_true hok] at h2
  unfold sidesRes at h1
  unfold sides2Res
  generalize sidesA w h g (ofKind w h g 0) = f at h1 ⊢
  refine Gives.by rfl rfl (W.seq ?_)
  repeat' first | ((with_reducible apply WR.c_s (f := 30) (fn := Code.f30)); (iterate 3 exact rfl); exact rfl; (focus ((repeat' first | exact args_nil | apply args_d | exact toD_d rfl | exact all_nil | apply all_cons | exact rfl); done)); exact h2) | ((with_reducible apply WR.c_a (f := 453) (fn := Code.f453)); (iterate 3 exact rfl); exact rfl; (focus ((repeat' first | exact args_nil | apply args_d | exact toD_d rfl | exact all_nil | apply all_cons | exact rfl); done)); exact h1) | ((with_reducible first | apply WR.mv | apply WR.un); exact rfl; exact rfl) | (with_reducible first | apply WR.nil | refine andThen_n ?_ | refine W.seq ?_ | refine W.region ?_ | refine W.skip ?_ | refine W.ret ?_) | ((with_reducible apply W.condF); exact rfl) | ((with_reducible apply Done.f); (intro hh hh2; exact (nomatch hh2)); (focus ((repeat' first | exact all_nil | apply all_cons | exact res_tmp rfl | exact res_cell rfl rfl (by first | exact IsLawn.len (by assumption) | exact rowI_len | exact rfl) | exact rfl); done)); (focus ((repeat' first | exact all_nil | apply all_cons | exact retOf_s rfl | exact retOf_a rfl | exact rfl); done)); exact rfl; (focus ((repeat' first | exact outs_nil | apply outs_d | exact rfl); done))) | ((with_reducible apply WR.ld); (iterate 3 exact rfl); (exact loadC_all (IsLawn.len (by assumption)))) | ((with_reducible apply WR.st); (iterate 3 exact rfl); exact storeAll (by first | exact IsLawn.len (by assumption) | exact rowI_len | exact rfl) (by first | exact IsLawn.len (by assumption) | exact rowI_len | exact rfl)) | ((with_reducible apply WR.bx); exact rfl; exact rfl; exact (by first | exact IsLawn.len (by assumption) | exact rowI_len | exact rfl); exact rfl) | ((with_reducible apply WR.al); exact rfl; exact rfl)
  rfl
theorem l05All_gives (l : IsLawn w h g cs) (hs : 0 ≤ w ∧ w ≤ 10 ∧ 0 ≤ h ∧ h ≤ 10) (hg : ∀ k, k < 100 → g k ≤ 3) : Gives G 454 [ar cs] (sidesRes (sidesA w h g (ofKind w h g 0))) := by
  have hall := l01Cells_gives l 0 hs
  have hal : (ofKind w h g 0).length ≤ 100 := Nat.le_trans (List.length_filter_le ..) (allC_len (w := w) (h := h) (by omega))
  have hmem : ∀ c ∈ ofKind w h g 0, Has w h c.1 c.2 := fun c hc => allC_mem (List.mem_filter.1 hc).1
  generalize ofKind w h g 0 = A at hall hal hmem ⊢
  unfold sidesRes
  refine Gives.by rfl rfl (W.seq ?_)
  repeat' first | ((with_reducible apply WR.c_o (f := 29) (fn := Code.f29)); (iterate 3 exact rfl); exact rfl; (focus ((repeat' first | exact args_nil | apply args_d | exact toD_d rfl | exact rfl); done)); exact hall; exact rfl) | ((with_reducible first | apply WR.mv | apply WR.bu); exact rfl; exact rfl) | ((with_reducible apply WR.al); exact rfl; exact rfl) | ((with_reducible apply WR.st); (iterate 3 exact rfl); exact storeAll (by first | exact rfl) (by first | exact rfl)) | (with_reducible first | apply WR.nil | refine andThen_n ?_ | refine W.seq ?_ | refine W.region ?_ | refine W.block ?_)
  (refine (?_ : W _ (Code.loop _) _ _))
  (refine W.loopM [0, 2, 3, 4] [2, 10] [6] (fun ((i, f) : (Nat) × (Nat → Int)) => (A.length - i : Nat)) (fun ((i, f) : (Nat) × (Nat → Int)) => (i ≤ A.length ∧ (∀ k, f k = sidesA w h g (A.take i) k ∨ 5 ≤ k) ∧ ∀ k, 0 ≤ f k ∧ f k ≤ 4 * i : Prop)) (fun z : (Nat) × (Nat → Int) => match z with | (i, f) => [(5, .a (.d (.s (.int .i64 (i : Nat)))))]) (fun z : (Nat) × (Nat → Int) => match z with | (i, f) => [(3, .flat false (rowI .i64 5 f))]) (0, fun _ => 0) (⟨by omega, fun k => .inl rfl, fun k => by simp⟩) ⟨rfl, trivial⟩ ⟨rfl, trivial⟩ ⟨np, trivial⟩ ?_)
  rintro ⟨i, f⟩ σ hP hN; dsimp only [setL, putL] at hP ⊢; obtain ⟨n6, hN⟩ := hN
  obtain ⟨hi, hf, hb0⟩ := hP
  by_cases hil : i < A.length
  · have hc := hmem _ (gC_mem hil)
    have hsn := fun k => sidesA_snoc (w := w) (h := h) (g := g) hil k
    have hsb := fun k => sides_b (w := w) (h := h) (g := g) (gC A i) k
    have har := l05At_gives l (by omega) hg (gC A i) (by omega)
    generalize sides w h g (gC A i) = s at hsn hsb har
    repeat' first | ((with_reducible apply WR.c_a (f := 86) (fn := Code.f86)); (iterate 3 exact rfl); exact rfl; (focus ((repeat' first | exact args_nil | apply args_d | exact toD_d rfl | exact rfl); done)); exact har) | ((with_reducible first | apply WR.mv | apply WR.le); exact rfl; exact rfl) | ((with_reducible apply WR.al); exact rfl; (first | exact rfl | assumption)) | ((with_reducible apply WR.st); (iterate 3 exact rfl); exact storeAll (by first | exact rowI_len | assumption | exact rfl) (by first | exact rowI_len | assumption | exact rfl)) | (with_reducible first | apply WR.nil | refine andThen_n ?_ | refine W.seq ?_ | refine W.region ?_ | refine W.skip ?_ | refine W.block ?_) | ((with_reducible apply W.condT); exact rfl) | (intro hb; try (exfalso; omega)) | ((with_reducible apply WR.lss); iterate 3 exact rfl) | ((with_reducible apply WR.ld); (iterate 3 exact rfl); (first | exact ldC (by first | omega))) | ((with_reducible apply WR.isn); (iterate 3 exact rfl); omega)
    (refine (?_ : W _ (Code.loop _) _ _))
    (refine W.loopM [0, 2, 3, 4, 5, 6] [2, 10] [6] (fun j : (Nat) => (5 - j : Nat)) (fun j : (Nat) => (j ≤ 5 : Prop)) (fun j : (Nat) => [(7, .a (.d (.s (.int .i64 (j : Nat)))))]) (fun j : (Nat) => [(3, .flat false (rowI .i64 5 (mixS f s j))), (6, .flat false (rowI .i64 5 s))]) 0 (by omega) ⟨rfl, trivial⟩ ⟨rfl, rfl, trivial⟩ ⟨np, trivial⟩ ?_)
    rintro j σ hP hN; dsimp only [setL, putL] at hP ⊢; obtain ⟨n6, hN⟩ := hN
    by_cases hj : j < 5
    · have h1 := hb0 j
      have h2 := hsb j
      have h3 : IntKind.i64.wrap (mixS f s j ((j : Nat) : Int).toNat + s ((j : Nat) : Int).toNat) = mixS f s j ((j : Nat) : Int).toNat + s ((j : Nat) : Int).toNat := by
        rw [Int.toNat_natCast, mixS_at]
        exact i64_in _ (by omega)
      repeat' first | ((with_reducible apply WR.mv); exact rfl; exact rfl) | (with_reducible first | apply WR.nil | refine andThen_n ?_ | refine inB_n ?_ | refine W.seq ?_ | refine W.region ?_ | refine W.skip ?_ | refine W.block ?_ | apply WH.nil | refine W.draw ?_) | ((with_reducible apply W.condT); exact rfl) | ((with_reducible apply WH.ia); (iterate 3 exact rfl); omega; exact rfl) | (intro hb; try (exfalso; omega)) | ((with_reducible first | apply WR.lss | apply WH.mv); iterate 3 exact rfl) | ((with_reducible apply WR.ad); (iterate 3 exact rfl); (first | exact i64_in _ (by omega) | assumption)) | ((with_reducible apply WH.ld); (iterate 3 exact rfl); (exact ldR (by omega)); exact rfl) | ((with_reducible apply WH.ad); (iterate 3 exact rfl); (first | exact i64_in _ (by omega) | assumption)) | ((with_reducible apply WH.st); (iterate 3 exact rfl); exact stR (by omega); exact rfl; exact rfl)
      rw [Int.toNat_natCast, mixS_at, mixS_step]
      (refine W.nxt (j + 1) (by first | omega | (dsimp only; omega)) ?_ ⟨rfl, trivial⟩ ⟨rfl, rfl, trivial⟩ ⟨rfl, rfl, rfl, rfl, rfl, rfl, trivial⟩ ⟨rfl, rfl, trivial⟩ ⟨np, trivial⟩); (try dsimp only)
      omega
    · obtain rfl : j = 5 := by omega
      repeat' first | ((with_reducible apply WR.mv); exact rfl; exact rfl) | (with_reducible first | apply WR.nil | refine andThen_n ?_ | refine andThen_x ?_ | refine inB_n ?_ | refine inB_x ?_ | refine W.seq ?_ | refine W.region ?_ | refine W.exit ?_) | ((with_reducible apply W.condF); exact rfl) | (intro hb; try (exfalso; omega)) | ((with_reducible apply WR.lss); iterate 3 exact rfl) | ((with_reducible apply WR.ad); (iterate 3 exact rfl); (exact i64_in _ (by omega)))
      (refine W.nxt (i + 1, mixS f s 5) (by first | omega | (dsimp only; omega)) ?_ ⟨rfl, trivial⟩ ⟨rfl, trivial⟩ ⟨rfl, rfl, rfl, rfl, trivial⟩ ⟨rfl, rfl, trivial⟩ ⟨np, trivial⟩); (try dsimp only)
      refine ⟨by omega, fun k => ?_, fun k => ?_⟩
      · by_cases hk : k < 5
        · left
          rw [hsn, mixS, if_pos hk]
          rcases hf k with e | e
          · rw [e]
          · omega
        · right; omega
      · have h1 := hb0 k
        have h2 := hsb k
        simp only [mixS]
        split <;> omega
  · repeat' first | ((with_reducible first | apply WR.mv | apply WR.le); exact rfl; exact rfl) | ((with_reducible apply WR.st); (iterate 3 exact rfl); exact storeAll (by first | exact rowI_len | exact rfl) (by first | exact rowI_len | exact rfl)) | (with_reducible first | apply WR.nil | refine andThen_n ?_ | refine andThen_x ?_ | refine inB_x ?_ | refine W.seq ?_ | refine W.region ?_ | refine W.ret ?_ | refine W.exit ?_) | ((with_reducible apply W.condF); exact rfl) | ((with_reducible apply Done.f); (intro hh hh2; exact (nomatch hh2)); (focus ((repeat' first | exact all_nil | apply all_cons | exact res_cell rfl rfl (by first | exact rowI_len | exact rfl) | exact rfl); done)); (focus ((repeat' first | exact all_nil | apply all_cons | exact retOf_a rfl | exact rfl); done)); exact rfl; (focus ((repeat' first | exact outs_nil | apply outs_d | exact rfl); done))) | (intro hb; try (exfalso; omega)) | ((with_reducible apply WR.lss); iterate 3 exact rfl) | ((with_reducible apply WR.ld); (iterate 3 exact rfl); (exact loadC_all rowI_len))
    rw [List.take_of_length_le (by omega)] at hf
    rw [rowI_congr (fun k hk => (hf k).resolve_right (by omega))]
    rfl
theorem sidesOfS_gives (l : IsLawn w h g cs) (hok : LawnOk w h g) : Gives G 447 [aa cs] (sides2Res (sidesA w h g (ofKind w h g 0))) := by
  have hs := hok.1
  have hs2 := hok.2.1
  have h1 := l05All_gives l (by omega) (fun k hk => (hok.2.2 k hk).1)
  have h2 := l01Ok_gives l
  rw [decide_eq_true hok] at h2
  unfold sidesRes at h1
  unfold sides2Res
  generalize sidesA w h g (ofKind w h g 0) = f at h1 ⊢
  refine Gives.by rfl rfl (W.seq ?_)
  repeat' first | ((with_reducible apply WR.c_s (f := 28) (fn := Code.f28)); (iterate 3 exact rfl); exact rfl; (focus ((repeat' first | exact args_nil | apply args_d | exact toD_ptr rfl rfl | exact all_nil | apply all_cons | exact rfl); done)); exact h2) | ((with_reducible apply WR.c_a (f := 454) (fn := Code.f454)); (iterate 3 exact rfl); exact rfl; (focus ((repeat' first | exact args_nil | apply args_d | exact toD_ptr rfl rfl | exact all_nil | apply all_cons | exact rfl); done)); exact h1) | ((with_reducible first | apply WR.mv | apply WR.un); exact rfl; exact rfl) | (with_reducible first | apply WR.nil | refine andThen_n ?_ | refine W.seq ?_ | refine W.region ?_ | refine W.skip ?_ | refine W.ret ?_) | ((with_reducible apply W.condF); exact rfl) | ((with_reducible apply Done.f); (intro hh hh2; exact (nomatch hh2)); (focus ((repeat' first | exact all_nil | apply all_cons | exact res_tmp rfl | exact res_cell rfl rfl (by first | exact IsLawn.len (by assumption) | exact rowI_len | exact rfl) | exact rfl); done)); (focus ((repeat' first | exact all_nil | apply all_cons | exact retOf_s rfl | exact retOf_a rfl | exact rfl); done)); exact rfl; (focus ((repeat' first | exact outs_nil | apply outs_d | exact rfl); done))) | ((with_reducible apply WR.st); (iterate 3 exact rfl); exact storeAll (by first | exact IsLawn.len (by assumption) | exact rowI_len | exact rfl) (by first | exact IsLawn.len (by assumption) | exact rowI_len | exact rfl)) | ((with_reducible apply WR.bx); exact rfl; exact rfl; exact (by first | exact IsLawn.len (by assumption) | exact rowI_len | exact rfl); exact rfl) | ((with_reducible apply WR.al); exact rfl; exact rfl)
  rfl
theorem kindF_gives (l : IsLawn w h g cs) (x y : Int) (hb : 0 ≤ x ∧ x < 10 ∧ 0 ≤ y ∧ y < 10) : Gives G 462 [ac x y, ar cs, ar [.int .i64 0]] (rb (decide (g (10 * y.toNat + x.toNat) = 0))) := by
  refine Gives.by rfl rfl (W.seq ?_)
  repeat' first | ((with_reducible apply WH.c_s (f := 100) (fn := Code.f100)); (iterate 3 exact rfl); exact rfl; (focus ((repeat' first | exact args_nil | apply args_d | exact toD_d rfl | exact all_nil | apply all_cons | exact rfl); done)); exact kind_gives (by assumption) _ _ (by omega); exact rfl) | (with_reducible first | apply WR.nil | refine andThen_n ?_ | refine W.seq ?_ | refine W.region ?_ | refine W.ret ?_ | apply WH.nil | refine W.draw ?_) | ((with_reducible apply Done.f); (intro hh hh2; exact (nomatch hh2)); (focus ((repeat' first | exact all_nil | apply all_cons | exact res_tmp rfl | exact rfl); done)); (focus ((repeat' first | exact all_nil | apply all_cons | exact retOf_s rfl | exact rfl); done)); exact rfl; (focus ((repeat' first | exact outs_nil | apply outs_d | exact rfl); done))) | ((with_reducible apply WH.ld); (iterate 3 exact rfl); (first | exact ld2 | exact loadC_all (IsLawn.len (by assumption))); exact rfl) | ((with_reducible apply WH.ldr); exact rfl; exact rfl; (first | exact ld2 | exact loadC_all (IsLawn.len (by assumption))); exact rfl) | ((with_reducible first | apply WH.lx | apply WH.mv | apply WH.eql); iterate 3 exact rfl) | (intro hb; try (exfalso; omega)) | ((with_reducible apply WR.mv); exact rfl; exact rfl) | ((with_reducible apply WR.bx); exact rfl; exact rfl; exact (by first | exact rfl); exact rfl)
  · exact rb_t (by assumption)
  · exact rb_f (by assumption)
theorem holds_kind (l : IsLawn w h g cs) (hs : w ≤ 10 ∧ h ≤ 10) : HoldsC G (.clo 462 [] [.ref cs, .ref [.int .i64 0]]) (fun c => g (ix c) = 0) (fun c => Has w h c.1 c.2) :=
  ⟨462, Code.f462, _, _, rfl, rfl, rfl, fun c hc => kindF_gives l c.1 c.2 (by omega)⟩
theorem cellsOfK_gives (l : IsLawn w h g cs) (hok : LawnOk w h g) : Gives G 452 [aa cs, ai .i64 0] ⟨[.own (ofKind w h g 0).length 2 (encC (ofKind w h g 0)), .s (.int .i64 0)], []⟩ := by
  have hs := hok.1
  have hs2 := hok.2.1
  have h1 := those_gives l (by omega) (holds_kind l (by omega)) (fun _ hh => hh)
  rw [show those w h (fun c => g (ix c) = 0) = ofKind w h g 0 from rfl] at h1
  have h2 := cc0_gives l hok
  generalize ofKind w h g 0 = A at h1 ⊢
  refine Gives.by rfl rfl (W.seq ?_)
  repeat' first | ((with_reducible apply WR.c_s (f := 74) (fn := Code.f74)); (iterate 3 exact rfl); exact rfl; (focus ((repeat' first | exact args_nil | apply args_d | exact toD_d rfl | exact toD_ptr rfl rfl | (apply toD_clo; exact rfl) | exact all_nil | apply all_cons | exact rfl); done)); exact h2) | ((with_reducible apply WR.c_o (f := 31) (fn := Code.f31)); (iterate 3 exact rfl); exact rfl; (focus ((repeat' first | exact args_nil | apply args_d | exact toD_d rfl | exact toD_ptr rfl rfl | (apply toD_clo; exact rfl) | exact all_nil | apply all_cons | exact rfl); done)); exact h1; exact rfl) | ((with_reducible apply WR.c_p (f := 56) (fn := Code.f56)); (iterate 3 exact rfl); exact rfl; (focus ((repeat' first | exact args_nil | apply args_d | exact toD_d rfl | exact toD_ptr rfl rfl | (apply toD_clo; exact rfl) | exact all_nil | apply all_cons | exact rfl); done)); exact within_gives _ _ _) | ((with_reducible first | apply WR.mv | apply WR.lx | apply WR.mf | apply WR.un | apply WR.pk); exact rfl; exact rfl) | ((with_reducible apply WR.ld); (iterate 3 exact rfl); (exact loadC_all (IsLawn.len (by assumption)))) | (with_reducible first | apply WR.nil | refine andThen_n ?_ | refine W.seq ?_ | refine W.region ?_ | refine W.skip ?_ | refine W.ret ?_) | ((with_reducible apply W.condF); exact rfl) | ((with_reducible apply Done.f); (intro hh hh2; exact (nomatch hh2)); (focus ((repeat' first | exact all_nil | apply all_cons | exact res_tmp rfl | exact rfl); done)); (focus ((repeat' first | exact all_nil | apply all_cons | exact retOf_s rfl | exact retOf_o rfl rfl (by first | exact encC_length _ | exact IsLawn.len (by assumption) | exact rfl) | exact rfl); done)); exact rfl; (focus ((repeat' first | exact outs_nil | apply outs_d | exact rfl); done))) | (intro hb; try (exfalso; omega)) | ((with_reducible apply WR.bx); exact rfl; exact rfl; exact (by first | exact encC_length _ | exact IsLawn.len (by assumption) | exact rfl); exact rfl) | ((with_reducible apply WR.bo); exact rfl; exact rfl; exact rfl) | ((with_reducible first | apply WR.eql | apply WR.neq); iterate 3 exact rfl)
  all_goals first
    | rfl
    | (exfalso; omega)
theorem countKind_gives (l : IsLawn w h g cs) (hok : LawnOk w h g) : Gives G 444 [aa cs, ai .i64 0] ⟨[.s (.int .i64 ((ofKind w h g 0).length : Nat)), .s (.int .i64 0)], []⟩ := by
  have h1 := cellsOfK_gives l hok
  generalize ofKind w h g 0 = A at h1 ⊢
  refine Gives.by rfl rfl (W.seq ?_)
  repeat' first | ((with_reducible apply WR.c_os (f := 452) (fn := Code.f452)); (iterate 3 exact rfl); exact rfl; (focus ((repeat' first | exact args_nil | apply args_d | exact toD_d rfl | exact all_nil | apply all_cons | exact rfl); done)); exact h1; exact rfl) | ((with_reducible apply WR.mv); exact rfl; exact rfl) | ((with_reducible first | apply WR.mvt | apply WR.ex | apply WR.le); exact rfl; exact rfl) | (with_reducible first | apply WR.nil | refine andThen_n ?_ | refine W.seq ?_ | refine W.region ?_ | refine W.ret ?_) | ((with_reducible apply Done.f); (intro hh hh2; exact (nomatch hh2)); (focus ((repeat' first | exact all_nil | apply all_cons | exact res_tmp rfl | exact rfl); done)); (focus ((repeat' first | exact all_nil | apply all_cons | exact retOf_s rfl | exact rfl); done)); exact rfl; (focus ((repeat' first | exact outs_nil | apply outs_d | exact rfl); done))) | ((with_reducible apply WR.bx); exact rfl; exact rfl; exact (by first | exact IsLawn.len (by assumption) | exact rfl); exact rfl) | ((with_reducible apply WR.ld); (iterate 3 exact rfl); (exact loadC_all (IsLawn.len (by assumption))))
  rfl
end Go.DM
