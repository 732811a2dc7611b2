/- How often a way mows each cell: both sides, the statement. -/
import Derived.Test.YtadlffkjghjciaaGreatDoorK380Whole
import Derived.Test.YtadlffkjghjciaaGreatDoorK380Beside
set_option linter.unusedSectionVars false
set_option linter.unusedSimpArgs false
set_option linter.unusedVariables false
set_option maxHeartbeats 4000000
namespace Go.DM
variable [Tok]
open Go.IntWalk
variable {w h : Int} {g : Nat → Int} {cs : List S}
def timesL (w h : Int) (q : Nat → Int) : List Int := (allC w h).map fun e => q (ix e)
theorem rowI_encI (k : IntKind) (n : Nat) (f : Nat → Int) : rowI k n f = encI k ((List.range n).map f) := by
  have : ∀ L : List Nat, L.map (fun i => S.int k (f i)) = encI k (L.map f) := fun L => by
    induction L with
    | nil => rfl
    | cons a r ih => rw [List.map_cons, List.map_cons, encI, ih]
  exact this _
theorem timesL_eq (q : Nat → Int) : timesL w h q = (List.range (w.toNat * h.toNat)).map (outI w q) := by
  unfold timesL allC cellsTo
  rw [List.map_map]
  apply List.map_congr_left
  intro i _
  show q (10 * (((i / w.toNat : Nat) : Int)).toNat + (((i % w.toNat : Nat) : Int)).toNat) = q (10 * (i / w.toNat) + i % w.toNat)
  rw [Int.toNat_natCast, Int.toNat_natCast]
theorem timesL_len (q : Nat → Int) : (timesL w h q).length = (allC w h).length := by simp [timesL]
theorem mownTimesS_ok (l : IsLawn w h g cs) (c : Cel) (hx : InB c) (s : List UInt8) (h0 : goneC w h g c s = 0) :
    Gives G 145 [aa cs, ac c.1 c.2, .d (.s (.str s))] ⟨[.own (timesL w h (timesF g (trk s c s.length))).length 1 (encI .i64 (timesL w h (timesF g (trk s c s.length)))), .s (.int .i64 0)], []⟩ := by
  have hw := l02Gone_gives l c hx s
  obtain ⟨ht, hO⟩ := gone_zero h0
  obtain ⟨hs, hH, hl, hlt⟩ := told_ok ht
  have hlen := trk_len s c s.length
  have htm := l02Times_gives l ⟨by omega, by omega⟩ (trk s c s.length) (by omega) (trk_has hO)
  have hal := l01All_gives l (by omega)
  have hmem : ∀ e ∈ allC w h, Has w h e.1 e.2 := fun e he => allC_mem he
  have hAl := allC_len (w := w) (h := h) (by omega)
  rw [if_pos h0] at hw
  unfold timesL
  generalize timesF g (trk s c s.length) = q at htm ⊢
  generalize trk s c s.length = T at hw hlen htm
  generalize allC w h = A at hal hmem hAl ⊢
  refine Gives.by rfl rfl (W.seq ?_)
  repeat' first | ((with_reducible apply WR.c_os (f := 39) (fn := Code.f39)); exact rfl; exact rfl; exact rfl; (exact rfl); (focus ((repeat' first | exact args_nil | apply args_d | exact toD_d rfl | exact toD_ptr rfl rfl | exact toD_slC rfl rfl (by first | exact rfl) | exact rfl); done)); exact hw; (exact rfl)) | ((with_reducible apply WR.c_a (f := 80) (fn := Code.f80)); exact rfl; exact rfl; exact rfl; (exact rfl); (focus ((repeat' first | exact args_nil | apply args_d | exact toD_d rfl | exact toD_ptr rfl rfl | exact toD_slC rfl rfl (by first | exact rfl) | exact rfl); done)); exact htm) | ((with_reducible apply WR.c_o (f := 60) (fn := Code.f60)); exact rfl; exact rfl; exact rfl; (exact rfl); (focus ((repeat' first | exact args_nil | apply args_d | exact toD_d rfl | exact toD_ptr rfl rfl | exact toD_slC rfl rfl (by first | exact rfl) | exact rfl); done)); exact hal; (exact rfl)) | ((with_reducible apply WR.mv); exact rfl; exact rfl) | ((with_reducible apply WR.mvt); exact rfl; exact rfl) | ((with_reducible apply WR.nil)) | (with_reducible refine andThen_n ?_) | (with_reducible refine W.seq ?_) | (with_reducible refine W.region ?_) | (with_reducible refine W.skip ?_) | (with_reducible refine W.block ?_) | ((with_reducible apply W.condF); exact rfl) | (intro hb; try (exfalso; omega)) | ((with_reducible apply WR.bx); exact rfl; exact rfl; exact (by first | exact List.length_replicate .. | exact grid_len | exact IsLawn.len (by assumption) | exact rfl); (exact rfl)) | ((with_reducible apply WR.bs); exact rfl; exact rfl; (exact rfl)) | ((with_reducible apply WR.ex); exact rfl; exact rfl) | ((with_reducible apply WR.neq); exact rfl; exact rfl; exact rfl) | ((with_reducible apply WR.ld); exact rfl; exact rfl; exact rfl; (first | exact ld2)) | ((with_reducible apply WR.al); exact rfl; (exact rfl)) | ((with_reducible apply WR.st); exact rfl; exact rfl; exact rfl; exact storeAll (by first | exact List.length_replicate .. | exact grid_len | exact IsLawn.len (by assumption) | exact rfl) (by first | exact List.length_replicate .. | exact grid_len | exact IsLawn.len (by assumption) | exact rfl))
  (refine (?_ : W _ (Code.loop _) _ _))
  (refine W.loopM [10, 12] [10, 27] [48, 49] (fun zz : (Nat) × (List Int) => match zz with | (i, out) => (A.length - i : Nat)) (fun zz : (Nat) × (List Int) => match zz with | (i, out) => (i ≤ A.length ∧ out.length ≤ 100 ∧ out = (A.take i).map (fun e => q (ix e)) : Prop)) (fun zz : (Nat) × (List Int) => match zz with | (i, out) => [(11, .a (.sl 26 0 out.length 1)), (13, .a (.d (.s (.int .i64 (i : Nat)))))]) (fun zz : (Nat) × (List Int) => match zz with | (i, out) => [(26, .flat false (encI .i64 out))]) (0, []) (⟨by omega, by simp, by simp⟩) ⟨rfl, rfl, trivial⟩ ⟨rfl, trivial⟩ ⟨np, np, trivial⟩ ?_)
  rintro ⟨i, out⟩ σ hP hN; dsimp only [setL, putL] at hP ⊢; obtain ⟨n48, hN⟩ := hN; obtain ⟨n49, hN⟩ := hN
  obtain ⟨hi, hol, ho⟩ := hP
  by_cases hil : i < A.length
  · have hH2 := hmem _ (gC_mem hil)
    repeat' first | ((with_reducible apply WR.mv); exact rfl; exact rfl) | ((with_reducible apply WH.mv); exact rfl; exact rfl; exact rfl) | ((with_reducible apply WR.nil)) | (with_reducible refine andThen_n ?_) | (with_reducible refine inB_n ?_) | (with_reducible refine W.seq ?_) | (with_reducible refine W.region ?_) | (with_reducible refine W.skip ?_) | (with_reducible refine W.block ?_) | ((with_reducible apply W.condT); exact rfl) | ((with_reducible apply WH.ld); exact rfl; exact rfl; exact rfl; (first | exact ldCx (by first | omega) | exact ldCy (by first | omega) | exact ldG (by omega)); exact rfl) | ((with_reducible apply WH.nil)) | (with_reducible refine W.draw ?_) | (intro hb; try (exfalso; omega)) | ((with_reducible apply WH.isn); exact rfl; exact rfl; exact rfl; omega; exact rfl) | ((with_reducible apply WH.ia); exact rfl; exact rfl; exact rfl; omega; exact rfl) | ((with_reducible apply WH.fa); exact rfl; exact rfl; exact rfl) | ((with_reducible apply WR.lss); exact rfl; exact rfl; exact rfl) | ((with_reducible apply WR.ad); exact rfl; exact rfl; exact rfl; (first | exact i64_in _ (by omega) | assumption)) | ((with_reducible apply WR.le); exact rfl; exact rfl) | ((with_reducible apply WH.bsI1); exact rfl; exact rfl; (first | exact rfl | assumption); exact rfl; exact rfl) | ((with_reducible apply WH.apI); exact rfl; exact rfl; exact rfl; exact rfl; (first | omega); exact rfl; (first | exact rfl | assumption); exact rfl)
    (refine W.nxt (i + 1, out ++ [q (10 * (gC A i).2.toNat + (gC A i).1.toNat)]) (by first | omega | (dsimp only; omega)) ?_ ⟨rfl, rfl, trivial⟩ ⟨rfl, trivial⟩ ⟨rfl, rfl, trivial⟩ ⟨rfl, rfl, trivial⟩ ⟨np, np, trivial⟩); (try dsimp only)
    have hle : out.length = i := by rw [ho, List.length_map, List.length_take]; omega
    refine ⟨by omega, by rw [List.length_append, hle, List.length_singleton]; omega, ?_⟩
    rw [List.take_add_one, gC_get hil, List.map_append, ← ho]; rfl
  · rw [show A.take i = A from List.take_of_length_le (by omega)] at ho
    rw [← ho]
    repeat' first | ((with_reducible apply WR.mv); exact rfl; exact rfl) | ((with_reducible apply WR.nil)) | (with_reducible refine andThen_n ?_) | (with_reducible refine andThen_x ?_) | (with_reducible refine inB_x ?_) | (with_reducible refine W.seq ?_) | (with_reducible refine W.region ?_) | (with_reducible refine W.ret ?_) | (with_reducible refine W.exit ?_) | ((with_reducible apply W.condF); exact rfl) | ((with_reducible apply Done.f); (intro hh hh2; exact (nomatch hh2)); (focus ((repeat' first | exact all_nil | apply all_cons | exact res_tmp rfl); done)); (focus ((repeat' first | exact all_nil | apply all_cons | exact retOf_s rfl | exact retOf_o rfl rfl (by first | exact (encI_length _ _).trans (Nat.mul_one _).symm)); done)); exact rfl; (focus ((repeat' first | exact outs_nil | apply outs_d); done))) | (intro hb; try (exfalso; omega)) | ((with_reducible apply WR.lss); exact rfl; exact rfl; exact rfl) | ((with_reducible apply WR.le); exact rfl; exact rfl)
    rfl
theorem mownTimes_ok (l : IsLawn w h g cs) (c : Cel) (s : List UInt8) (h0 : goneC w h g c s = 0) :
    Gives G 146 [aa cs, ac c.1 c.2, .d (.s (.str s))] ⟨[.own (timesL w h (timesF g (trk s c s.length))).length 1 (encI .i64 (timesL w h (timesF g (trk s c s.length)))), .s (.int .i64 0)], []⟩ := by
  have hw := walked_gives l c s
  obtain ⟨ht, hO⟩ := gone_zero h0
  obtain ⟨hs, hH, hl, hlt⟩ := told_ok ht
  have hlen := trk_len s c s.length
  have hth := trk_has hO
  have hal := all_gives l (by omega)
  have hAl := allC_len (w := w) (h := h) (by omega)
  have hgg := fun e : Cel => grass_gives l e.1 e.2 (.inl ⟨by omega, by omega⟩)
  have hix := fun (e : Cel) (he : Has w h e.1 e.2) => index_gives' l e.1 e.2 (by omega) (by omega)
  have hidx : ∀ e : Cel, Has w h e.1 e.2 → 0 ≤ e.2 * w + e.1 ∧ e.2 * w + e.1 < (allC w h).length := fun e he => by
    have h1 := idx_b (w := w) (h := h) (by omega) he
    unfold allC
    rw [cellsTo_len]
    obtain ⟨W0, rfl⟩ : ∃ W0 : Nat, w = W0 := ⟨w.toNat, by omega⟩
    obtain ⟨H0, rfl⟩ : ∃ H0 : Nat, h = H0 := ⟨h.toNat, by omega⟩
    rw [Int.toNat_natCast, Int.toNat_natCast, Int.natCast_mul]
    exact ⟨by omega, by omega⟩
  have hres : encI .i64 (timesL w h (timesF g (trk s c s.length))) = rowI .i64 (allC w h).length (outI w (timesF g (trk s c s.length))) := by
    rw [timesL_eq, rowI_encI]; unfold allC; rw [cellsTo_len]
  rw [if_pos h0] at hw
  rw [hres, timesL_len]
  generalize trk s c s.length = T at hw hlen hth ⊢
  generalize allC w h = A at hal hAl hidx ⊢
  have hqb : ∀ i k, 0 ≤ timesF g (T.take i) k ∧ timesF g (T.take i) k ≤ 1000 := fun i k => by
    have := timesF_b (g := g) (T.take i) (fun _ => 0) 0 (fun k => by simp) k
    have h2 : (T.take i).length ≤ T.length := by rw [List.length_take]; omega
    unfold timesF; omega
  refine Gives.by rfl rfl (W.seq ?_)
  repeat' first | ((with_reducible apply WR.c_os (f := 81) (fn := Code.f81)); exact rfl; exact rfl; exact rfl; (exact rfl); (focus ((repeat' first | exact args_nil | apply args_d | exact toD_d rfl | exact rfl); done)); exact hw; (exact rfl)) | ((with_reducible apply WR.c_o (f := 33) (fn := Code.f33)); exact rfl; exact rfl; exact rfl; (exact rfl); (focus ((repeat' first | exact args_nil | apply args_d | exact toD_d rfl | exact rfl); done)); exact hal; (exact rfl)) | ((with_reducible apply WR.mv); exact rfl; exact rfl) | ((with_reducible apply WR.mvt); exact rfl; exact rfl) | ((with_reducible apply WR.ld); exact rfl; exact rfl; exact rfl; (first | exact ld2 | exact loadC_all (IsLawn.len (by assumption)))) | ((with_reducible apply WR.nil)) | (with_reducible refine andThen_n ?_) | (with_reducible refine W.seq ?_) | (with_reducible refine W.region ?_) | (with_reducible refine W.skip ?_) | ((with_reducible apply W.condF); exact rfl) | (intro hb; try (exfalso; omega)) | ((with_reducible apply WR.bx); exact rfl; exact rfl; exact (by first | exact IsLawn.len (by assumption) | exact rfl); (exact rfl)) | ((with_reducible apply WR.ex); exact rfl; exact rfl) | ((with_reducible apply WR.le); exact rfl; exact rfl) | ((with_reducible apply WR.neq); exact rfl; exact rfl; exact rfl)
  (with_reducible apply WR.mks); exact rfl; exact rfl; exact rfl; exact (by omega); exact rfl
  repeat' first | ((with_reducible apply WR.mv); exact rfl; exact rfl) | ((with_reducible apply WR.nil)) | (with_reducible refine andThen_n ?_) | (with_reducible refine W.seq ?_) | (with_reducible refine W.region ?_) | (with_reducible refine W.block ?_) | ((with_reducible apply WR.le); exact rfl; exact rfl)
  (refine (?_ : W _ (Code.loop _) _ _))
  (refine W.loopM [3, 10, 27, 28] [3, 1017] [12] (fun zz : (Nat) × (Nat → Int) => match zz with | (i, q) => (T.length - i : Nat)) (fun zz : (Nat) × (Nat → Int) => match zz with | (i, q) => (i ≤ T.length ∧ q = timesF g (T.take i) : Prop)) (fun zz : (Nat) × (Nat → Int) => match zz with | (i, q) => [(29, .a (.d (.s (.int .i64 (i : Nat)))))]) (fun zz : (Nat) × (Nat → Int) => match zz with | (i, q) => [(26, .flat false (rowI .i64 A.length (outI w q)))]) (0, fun _ => 0) (⟨by omega, rfl⟩) ⟨rfl, trivial⟩ ⟨rfl, trivial⟩ ⟨np, trivial⟩ ?_)
  rintro ⟨i, q⟩ σ hP hN; dsimp only [setL, putL] at hP ⊢; obtain ⟨n12, hN⟩ := hN
  obtain ⟨hi, hq⟩ := hP
  by_cases hil : i < T.length
  · have hH2 := hth _ (gC_mem hil)
    have hi2 := hidx _ hH2
    have hge := outI_get (d := q) hH2
    have hbq := hqb i (10 * (gC T i).2.toNat + (gC T i).1.toNat)
    rw [← hq] at hbq
    repeat' first | ((with_reducible apply WR.c_p (f := 32) (fn := Code.f32)); exact rfl; exact rfl; exact rfl; (exact rfl); (focus ((repeat' first | exact args_nil | apply args_d | exact toD_d rfl | exact rfl); done)); exact hgg (gC T i)) | ((with_reducible apply WR.c_s (f := 48) (fn := Code.f48)); exact rfl; exact rfl; exact rfl; (exact rfl); (focus ((repeat' first | exact args_nil | apply args_d | exact toD_d rfl | exact rfl); done)); exact hix (gC T i) hH2) | ((with_reducible apply WR.mv); exact rfl; exact rfl) | ((with_reducible apply WR.ld); exact rfl; exact rfl; exact rfl; (first | exact ld2 | exact loadC_all (IsLawn.len (by assumption)) | exact ldC (by first | omega) | exact ldR (by omega))) | ((with_reducible apply WR.isn); exact rfl; exact rfl; exact rfl; omega) | ((with_reducible apply WR.is); exact rfl; exact rfl; exact rfl; omega) | ((with_reducible apply WR.nil)) | (with_reducible refine andThen_n ?_) | (with_reducible refine inB_n ?_) | (with_reducible refine W.seq ?_) | (with_reducible refine W.region ?_) | (with_reducible refine W.skip ?_) | (with_reducible refine W.block ?_) | ((with_reducible apply W.condT); exact rfl) | ((with_reducible apply W.condF); exact rfl) | (intro hb; try (exfalso; omega)) | ((with_reducible apply WR.ad); exact rfl; exact rfl; exact rfl; (first | exact i64_in _ (by omega) | assumption)) | ((with_reducible apply WR.st); exact rfl; exact rfl; exact rfl; exact st2) | ((with_reducible apply WR.st); exact rfl; exact rfl; exact rfl; exact stR (by omega)) | ((with_reducible apply WR.lss); exact rfl; exact rfl; exact rfl) | ((with_reducible apply WR.al); exact rfl; (first | exact rfl | assumption))
    · have hst : timesF g (T.take (i + 1)) = gset q (ix (gC T i)) (q (10 * (gC T i).2.toNat + (gC T i).1.toNat) + 1) := by
        unfold timesF at hq ⊢
        rw [fold_snoc _ (gC_get hil), ← hq, if_pos (by assumption : Is w h g 0 (gC T i).1 (gC T i).2).2]
      have hos := outI_set (d := q) (c := gC T i) (v := q (10 * (gC T i).2.toNat + (gC T i).1.toNat) + 1) (by omega) hH2
      rw [hge, hos]
      (refine W.nxt (i + 1, gset q (ix (gC T i)) (q (10 * (gC T i).2.toNat + (gC T i).1.toNat) + 1)) (by first | omega | (dsimp only; omega)) ?_ ⟨rfl, trivial⟩ ⟨rfl, trivial⟩ ⟨rfl, rfl, rfl, rfl, trivial⟩ ⟨rfl, rfl, trivial⟩ ⟨np, trivial⟩); (try dsimp only)
      exact ⟨by omega, hst.symm⟩
    · have hst : timesF g (T.take (i + 1)) = q := by
        have hno : ¬ g (ix (gC T i)) = 0 := fun h1 => absurd (⟨hH2, h1⟩ : Is w h g 0 (gC T i).1 (gC T i).2) (by assumption)
        unfold timesF at hq ⊢
        rw [fold_snoc _ (gC_get hil), ← hq, if_neg hno]
      (refine W.nxt (i + 1, q) (by first | omega | (dsimp only; omega)) ?_ ⟨rfl, trivial⟩ ⟨rfl, trivial⟩ ⟨rfl, rfl, rfl, rfl, trivial⟩ ⟨rfl, rfl, trivial⟩ ⟨np, trivial⟩); (try dsimp only)
      exact ⟨by omega, hst.symm⟩
  · rw [show T.take i = T from List.take_of_length_le (by omega)] at hq
    rw [← hq]
    repeat' first | ((with_reducible apply WR.mv); exact rfl; exact rfl) | ((with_reducible apply WR.nil)) | (with_reducible refine andThen_n ?_) | (with_reducible refine andThen_x ?_) | (with_reducible refine inB_x ?_) | (with_reducible refine W.seq ?_) | (with_reducible refine W.region ?_) | (with_reducible refine W.ret ?_) | (with_reducible refine W.exit ?_) | ((with_reducible apply W.condF); exact rfl) | ((with_reducible apply Done.f); (intro hh hh2; exact (nomatch hh2)); (focus ((repeat' first | exact all_nil | apply all_cons | exact res_tmp rfl); done)); (focus ((repeat' first | exact all_nil | apply all_cons | exact retOf_s rfl | exact retOf_o rfl rfl (by first | exact rowI_len.trans (Nat.mul_one _).symm)); done)); exact rfl; (focus ((repeat' first | exact outs_nil | apply outs_d); done))) | (intro hb; try (exfalso; omega)) | ((with_reducible apply WR.lss); exact rfl; exact rfl; exact rfl)
    rfl
end Go.DM

/- What a way leaves, what it mows: both sides, the statements. -/
set_option maxHeartbeats 4000000
namespace Go.DM
variable [Tok]
open Go.IntWalk
variable {w h : Int} {g : Nat → Int} {cs : List S}
theorem leftByS_gives (l : IsLawn w h g cs) (c : Cel) (hx : InB c) (s : List UInt8) :
    Gives G 195 [aa cs, ac c.1 c.2, .d (.s (.str s))] (if goneC w h g c s = 0 then ⟨[.own (leftL w h g (trk s c s.length)).length 2 (encC (leftL w h g (trk s c s.length))), .s (.int .i64 0)], []⟩ else ⟨[.own 0 2 (encC []), .s (.int .i64 (goneC w h g c s))], []⟩) := by
  have hw := l02Gone_gives l c hx s
  by_cases h0 : goneC w h g c s = 0
  · obtain ⟨ht, hO⟩ := gone_zero h0
    obtain ⟨hs, hH, hl, hlt⟩ := told_ok ht
    have hlen := trk_len s c s.length
    have hm := l02Mown_gives l (by omega) (trk s c s.length) (by omega) (trk_has hO) false
    rw [← left_mown ⟨by omega, by omega⟩ (trk_has hO)] at hm
    rw [if_pos h0] at hw ⊢
    generalize leftL w h g (trk s c s.length) = R at hm ⊢
    generalize trk s c s.length = T at hw hm hlen
    refine Gives.by rfl rfl (W.seq ?_)
    repeat' first | ((with_reducible apply WR.c_os (f := 39) (fn := Code.f39)); exact rfl; exact rfl; exact rfl; (exact rfl); (focus ((repeat' first | exact args_nil | apply args_d | exact toD_d rfl | exact toD_ptr rfl rfl | exact toD_slC rfl rfl (by first | exact rfl) | exact all_nil | apply all_cons | exact rfl); done)); exact hw; (exact rfl)) | ((with_reducible apply WR.c_o (f := 40) (fn := Code.f40)); exact rfl; exact rfl; exact rfl; (exact rfl); (focus ((repeat' first | exact args_nil | apply args_d | exact toD_d rfl | exact toD_ptr rfl rfl | exact toD_slC rfl rfl (by first | exact rfl) | exact all_nil | apply all_cons | exact rfl); done)); exact hm; (exact rfl)) | ((with_reducible apply WR.mv); exact rfl; exact rfl) | ((with_reducible apply WR.mvt); exact rfl; exact rfl) | ((with_reducible apply WR.nil)) | (with_reducible refine andThen_n ?_) | (with_reducible refine W.seq ?_) | (with_reducible refine W.region ?_) | (with_reducible refine W.skip ?_) | (with_reducible refine W.ret ?_) | ((with_reducible apply W.condF); exact rfl) | ((with_reducible apply Done.f); (intro hh hh2; exact (nomatch hh2)); (focus ((repeat' first | exact all_nil | apply all_cons | exact res_tmp rfl | exact rfl); done)); (focus ((repeat' first | exact all_nil | apply all_cons | exact retOf_s rfl | exact retOf_o rfl rfl (by first | exact encC_length _ | exact IsLawn.len (by assumption) | exact rfl) | exact rfl); done)); exact rfl; (focus ((repeat' first | exact outs_nil | apply outs_d | exact rfl); done))) | (intro hb; try (exfalso; omega)) | ((with_reducible apply WR.bx); exact rfl; exact rfl; exact (by first | exact encC_length _ | exact IsLawn.len (by assumption) | exact rfl); (exact rfl)) | ((with_reducible apply WR.ex); exact rfl; exact rfl) | ((with_reducible apply WR.neq); exact rfl; exact rfl; exact rfl) | ((with_reducible apply WR.ld); exact rfl; exact rfl; exact rfl; (first | exact ld2))
    all_goals rfl
  · rw [if_neg h0] at hw ⊢
    refine Gives.by rfl rfl (W.seq ?_)
    repeat' first | ((with_reducible apply WR.c_os (f := 39) (fn := Code.f39)); exact rfl; exact rfl; exact rfl; (exact rfl); (focus ((repeat' first | exact args_nil | apply args_d | exact toD_d rfl | exact toD_ptr rfl rfl | exact all_nil | apply all_cons | exact rfl); done)); exact hw; (exact rfl)) | ((with_reducible apply WR.mv); exact rfl; exact rfl) | ((with_reducible apply WR.mvt); exact rfl; exact rfl) | ((with_reducible apply WR.nil)) | (with_reducible refine andThen_n ?_) | (with_reducible refine andThen_r ?_) | (with_reducible refine W.seq ?_) | (with_reducible refine W.region ?_) | (with_reducible refine W.ret ?_) | ((with_reducible apply W.condT); exact rfl) | ((with_reducible apply Done.f); (intro hh hh2; exact (nomatch hh2)); (focus ((repeat' first | exact all_nil | apply all_cons | exact res_tmp rfl | exact rfl); done)); (focus ((repeat' first | exact all_nil | apply all_cons | exact retOf_s rfl | exact retOf_o rfl rfl (by first | exact encC_length _ | exact IsLawn.len (by assumption) | exact rfl) | exact rfl); done)); exact rfl; (focus ((repeat' first | exact outs_nil | apply outs_d | exact rfl); done))) | (intro hb; try (exfalso; omega)) | ((with_reducible apply WR.bx); exact rfl; exact rfl; exact (by first | exact encC_length _ | exact IsLawn.len (by assumption) | exact rfl); (exact rfl)) | ((with_reducible apply WR.ex); exact rfl; exact rfl) | ((with_reducible apply WR.neq); exact rfl; exact rfl; exact rfl) | ((with_reducible apply WR.ld); exact rfl; exact rfl; exact rfl; (first | exact ld2)) | ((with_reducible apply WR.bs0); exact rfl; (exact rfl))
    all_goals first | rfl | exact absurd (by assumption) h0
theorem mownF_gives (l : IsLawn w h g cs) (hs : w ≤ 10 ∧ h ≤ 10) (L : List Cel) (hl : L.length ≤ 1000) (x y : Int) : Gives G 204 [ac x y, ar cs, .d (.refd (.sl L.length 2 (encC L)))] (rb (decide (Is w h g 0 x y ∧ (x, y) ∈ L))) := by
  have hg := grass_gives l x y (.inl hs)
  have hc := contains_gives L hl x y
  refine Gives.by rfl rfl (W.seq ?_)
  repeat' first | ((with_reducible apply WR.c_p (f := 32) (fn := Code.f32)); exact rfl; exact rfl; exact rfl; (exact rfl); (focus ((repeat' first | exact args_nil | apply args_d | exact toD_d rfl | exact all_nil | apply all_cons | exact rfl); done)); exact hg) | ((with_reducible apply WR.c_p (f := 83) (fn := Code.f83)); exact rfl; exact rfl; exact rfl; (exact rfl); (focus ((repeat' first | exact args_nil | apply args_d | exact toD_d rfl | exact all_nil | apply all_cons | exact rfl); done)); exact hc) | ((with_reducible apply WR.ld); exact rfl; exact rfl; exact rfl; (first | exact ld2 | exact loadC_all (IsLawn.len (by assumption)))) | ((with_reducible apply WR.ldr); exact rfl; exact rfl; (first | exact ld2 | exact loadC_all (IsLawn.len (by assumption)))) | ((with_reducible apply WR.lx); exact rfl; exact rfl) | ((with_reducible apply WR.mv); exact rfl; exact rfl) | ((with_reducible apply WR.nil)) | (with_reducible refine andThen_n ?_) | (with_reducible refine W.seq ?_) | (with_reducible refine W.region ?_) | (with_reducible refine W.ret ?_) | ((with_reducible apply Done.f); (intro hh hh2; exact (nomatch hh2)); (focus ((repeat' first | exact all_nil | apply all_cons | exact res_tmp rfl | exact rfl); done)); (focus ((repeat' first | exact all_nil | apply all_cons | exact retOf_s rfl | exact rfl); done)); exact rfl; (focus ((repeat' first | exact outs_nil | apply outs_d | exact rfl); done))) | (intro hb; try (exfalso; omega)) | ((with_reducible apply WR.off); exact rfl) | ((with_reducible apply WR.bx); exact rfl; exact rfl; exact (by first | exact rfl); (exact rfl)) | ((with_reducible apply WR.pk); exact rfl; exact rfl)
  all_goals first
    | exact rb_t ⟨by assumption, by assumption⟩
    | exact rb_f (fun hh => absurd hh.1 (by assumption))
    | exact rb_f (fun hh => absurd hh.2 (by assumption))
theorem holds_mown (l : IsLawn w h g cs) (hs : w ≤ 10 ∧ h ≤ 10) (L : List Cel) (hl : L.length ≤ 1000) :
    HoldsC G (.clo 204 [] [.ref cs, .refd (.sl L.length 2 (encC L))]) (fun c => Is w h g 0 c.1 c.2 ∧ c ∈ L) (fun _ => True) :=
  ⟨204, Code.f204, _, _, rfl, rfl, rfl, fun c _ => mownF_gives l hs L hl c.1 c.2⟩
def mownBL (w h : Int) (g : Nat → Int) (L : List Cel) : List Cel := those w h fun c => Is w h g 0 c.1 c.2 ∧ c ∈ L
theorem mown_mown (hs : w ≤ 10 ∧ h ≤ 10) {T : List Cel} (hT : ∀ e ∈ T, Has w h e.1 e.2) : mownBL w h g T = mownL w h g T true := by
  unfold mownBL mownL those ofKind
  rw [List.filter_filter]
  apply List.filter_congr
  intro e he
  have hh := allC_mem he
  have hp := timesF_pos (g := g) T (fun _ => 0) (fun _ => by simp) (ix e)
  by_cases h1 : g (ix e) = 0
  · have h2 : Is w h g 0 e.1 e.2 := ⟨hh, h1⟩
    have h3 : timesF g T (ix e) > 0 ↔ e ∈ T := by
      unfold timesF
      rw [hp]
      constructor
      · rintro (h4 | ⟨a, h4, h5, h6⟩)
        · simp at h4
        · rw [← ix_inj hs (hT a h4) hh h6]; exact h4
      · intro h4; exact .inr ⟨e, h4, h1, rfl⟩
    by_cases h4 : e ∈ T
    · simp [h2, h1, h4, h3.2 h4]
    · have h5 : ¬ timesF g T (ix e) > 0 := fun h => h4 (h3.1 h)
      simp [h2, h1, h4, h5]
  · have h2 : ¬ Is w h g 0 e.1 e.2 := fun h => h1 h.2
    simp [h2, h1]
theorem mownBy_gives (l : IsLawn w h g cs) (c : Cel) (s : List UInt8) :
    Gives G 197 [aa cs, ac c.1 c.2, .d (.s (.str s))] (if goneC w h g c s = 0 then ⟨[.own (mownBL w h g (trk s c s.length)).length 2 (encC (mownBL w h g (trk s c s.length))), .s (.int .i64 0)], []⟩ else ⟨[.s .nils, .s (.int .i64 (goneC w h g c s))], []⟩) := by
  have hw := walked_gives l c s
  by_cases h0 : goneC w h g c s = 0
  · obtain ⟨ht, hO⟩ := gone_zero h0
    obtain ⟨hs, hH, hl, hlt⟩ := told_ok ht
    have hlen := trk_len s c s.length
    rw [if_pos h0] at hw ⊢
    have hth := those_gives l (by omega) (holds_mown l ⟨by omega, by omega⟩ (trk s c s.length) (by omega)) (fun _ _ => trivial)
    unfold mownBL
    generalize trk s c s.length = T at hw hth hlen ⊢
    generalize those w h (fun c => Is w h g 0 c.1 c.2 ∧ c ∈ T) = R at hth ⊢
    refine Gives.by rfl rfl (W.seq ?_)
    repeat' first | ((with_reducible apply WR.c_os (f := 81) (fn := Code.f81)); exact rfl; exact rfl; exact rfl; (exact rfl); (focus ((repeat' first | exact args_nil | apply args_d | exact toD_d rfl | exact toD_ptr rfl rfl | exact toD_slC rfl rfl (by first | exact rfl) | (apply toD_clo; exact rfl) | exact all_nil | apply all_cons | (apply toDA_var; exact rfl) | exact rfl); done)); exact hw; (exact rfl)) | ((with_reducible apply WR.c_o (f := 31) (fn := Code.f31)); exact rfl; exact rfl; exact rfl; (exact rfl); (focus ((repeat' first | exact args_nil | apply args_d | exact toD_d rfl | exact toD_ptr rfl rfl | exact toD_slC rfl rfl (by first | exact rfl) | (apply toD_clo; exact rfl) | exact all_nil | apply all_cons | (apply toDA_var; exact rfl) | exact rfl); done)); exact hth; (exact rfl)) | ((with_reducible apply WR.mv); exact rfl; exact rfl) | ((with_reducible apply WR.mvt); exact rfl; exact rfl) | ((with_reducible apply WR.ld); exact rfl; exact rfl; exact rfl; (first | exact ld2 | exact loadC_all (IsLawn.len (by assumption)))) | ((with_reducible apply WR.nil)) | (with_reducible refine andThen_n ?_) | (with_reducible refine W.seq ?_) | (with_reducible refine W.region ?_) | (with_reducible refine W.skip ?_) | (with_reducible refine W.ret ?_) | ((with_reducible apply W.condF); exact rfl) | ((with_reducible apply Done.f); (intro hh hh2; exact (nomatch hh2)); (focus ((repeat' first | exact all_nil | apply all_cons | exact res_tmp rfl | exact rfl); done)); (focus ((repeat' first | exact all_nil | apply all_cons | exact retOf_s rfl | exact retOf_o rfl rfl (by first | exact encC_length _ | exact IsLawn.len (by assumption) | exact rfl) | exact rfl); done)); exact rfl; (focus ((repeat' first | exact outs_nil | apply outs_d | exact rfl); done))) | (intro hb; try (exfalso; omega)) | ((with_reducible apply WR.bx); exact rfl; exact rfl; exact (by first | exact encC_length _ | exact IsLawn.len (by assumption) | exact rfl); (exact rfl)) | ((with_reducible apply WR.ex); exact rfl; exact rfl) | ((with_reducible apply WR.neq); exact rfl; exact rfl; exact rfl) | ((with_reducible apply WR.mf); exact rfl; exact rfl) | ((with_reducible apply WR.al); exact rfl; (exact rfl)) | ((with_reducible apply WR.st); exact rfl; exact rfl; exact rfl; exact rfl)
    all_goals rfl
  · rw [if_neg h0] at hw ⊢
    refine Gives.by rfl rfl (W.seq ?_)
    repeat' first | ((with_reducible apply WR.c_ss (f := 81) (fn := Code.f81)); exact rfl; exact rfl; exact rfl; (exact rfl); (focus ((repeat' first | exact args_nil | apply args_d | exact toD_d rfl | exact all_nil | apply all_cons | exact rfl); done)); exact hw) | ((with_reducible apply WR.mv); exact rfl; exact rfl) | ((with_reducible apply WR.mvt); exact rfl; exact rfl) | ((with_reducible apply WR.ld); exact rfl; exact rfl; exact rfl; (first | exact ld2 | exact loadC_all (IsLawn.len (by assumption)))) | ((with_reducible apply WR.nil)) | (with_reducible refine andThen_n ?_) | (with_reducible refine andThen_r ?_) | (with_reducible refine W.seq ?_) | (with_reducible refine W.region ?_) | (with_reducible refine W.ret ?_) | ((with_reducible apply W.condT); exact rfl) | ((with_reducible apply Done.f); (intro hh hh2; exact (nomatch hh2)); (focus ((repeat' first | exact all_nil | apply all_cons | exact res_tmp rfl | exact rfl); done)); (focus ((repeat' first | exact all_nil | apply all_cons | exact retOf_s rfl | exact rfl); done)); exact rfl; (focus ((repeat' first | exact outs_nil | apply outs_d | exact rfl); done))) | (intro hb; try (exfalso; omega)) | ((with_reducible apply WR.bx); exact rfl; exact rfl; exact (by first | exact IsLawn.len (by assumption) | exact rfl); (exact rfl)) | ((with_reducible apply WR.ex); exact rfl; exact rfl) | ((with_reducible apply WR.neq); exact rfl; exact rfl; exact rfl) | ((with_reducible apply WR.al); exact rfl; (exact rfl)) | ((with_reducible apply WR.st); exact rfl; exact rfl; exact rfl; exact storeAll (by first | exact IsLawn.len (by assumption) | exact rfl) (by first | exact IsLawn.len (by assumption) | exact rfl))
    all_goals first | rfl | exact absurd (by assumption) h0
theorem mownByS_gives (l : IsLawn w h g cs) (c : Cel) (hx : InB c) (s : List UInt8) :
    Gives G 196 [aa cs, ac c.1 c.2, .d (.s (.str s))] (if goneC w h g c s = 0 then ⟨[.own (mownBL w h g (trk s c s.length)).length 2 (encC (mownBL w h g (trk s c s.length))), .s (.int .i64 0)], []⟩ else ⟨[.own 0 2 (encC []), .s (.int .i64 (goneC w h g c s))], []⟩) := by
  have hw := l02Gone_gives l c hx s
  by_cases h0 : goneC w h g c s = 0
  · obtain ⟨ht, hO⟩ := gone_zero h0
    obtain ⟨hs, hH, hl, hlt⟩ := told_ok ht
    have hlen := trk_len s c s.length
    have hm := l02Mown_gives l (by omega) (trk s c s.length) (by omega) (trk_has hO) true
    rw [← mown_mown ⟨by omega, by omega⟩ (trk_has hO)] at hm
    rw [if_pos h0] at hw ⊢
    generalize mownBL w h g (trk s c s.length) = R at hm ⊢
    generalize trk s c s.length = T at hw hm hlen
    refine Gives.by rfl rfl (W.seq ?_)
    repeat' first | ((with_reducible apply WR.c_os (f := 39) (fn := Code.f39)); exact rfl; exact rfl; exact rfl; (exact rfl); (focus ((repeat' first | exact args_nil | apply args_d | exact toD_d rfl | exact toD_ptr rfl rfl | exact toD_slC rfl rfl (by first | exact rfl) | exact all_nil | apply all_cons | exact rfl); done)); exact hw; (exact rfl)) | ((with_reducible apply WR.c_o (f := 40) (fn := Code.f40)); exact rfl; exact rfl; exact rfl; (exact rfl); (focus ((repeat' first | exact args_nil | apply args_d | exact toD_d rfl | exact toD_ptr rfl rfl | exact toD_slC rfl rfl (by first | exact rfl) | exact all_nil | apply all_cons | exact rfl); done)); exact hm; (exact rfl)) | ((with_reducible apply WR.mv); exact rfl; exact rfl) | ((with_reducible apply WR.mvt); exact rfl; exact rfl) | ((with_reducible apply WR.nil)) | (with_reducible refine andThen_n ?_) | (with_reducible refine W.seq ?_) | (with_reducible refine W.region ?_) | (with_reducible refine W.skip ?_) | (with_reducible refine W.ret ?_) | ((with_reducible apply W.condF); exact rfl) | ((with_reducible apply Done.f); (intro hh hh2; exact (nomatch hh2)); (focus ((repeat' first | exact all_nil | apply all_cons | exact res_tmp rfl | exact rfl); done)); (focus ((repeat' first | exact all_nil | apply all_cons | exact retOf_s rfl | exact retOf_o rfl rfl (by first | exact encC_length _ | exact IsLawn.len (by assumption) | exact rfl) | exact rfl); done)); exact rfl; (focus ((repeat' first | exact outs_nil | apply outs_d | exact rfl); done))) | (intro hb; try (exfalso; omega)) | ((with_reducible apply WR.bx); exact rfl; exact rfl; exact (by first | exact encC_length _ | exact IsLawn.len (by assumption) | exact rfl); (exact rfl)) | ((with_reducible apply WR.ex); exact rfl; exact rfl) | ((with_reducible apply WR.neq); exact rfl; exact rfl; exact rfl) | ((with_reducible apply WR.ld); exact rfl; exact rfl; exact rfl; (first | exact ld2))
    all_goals rfl
  · rw [if_neg h0] at hw ⊢
    refine Gives.by rfl rfl (W.seq ?_)
    repeat' first | ((with_reducible apply WR.c_os (f := 39) (fn := Code.f39)); exact rfl; exact rfl; exact rfl; (exact rfl); (focus ((repeat' first | exact args_nil | apply args_d | exact toD_d rfl | exact toD_ptr rfl rfl | exact all_nil | apply all_cons | exact rfl); done)); exact hw; (exact rfl)) | ((with_reducible apply WR.mv); exact rfl; exact rfl) | ((with_reducible apply WR.mvt); exact rfl; exact rfl) | ((with_reducible apply WR.nil)) | (with_reducible refine andThen_n ?_) | (with_reducible refine andThen_r ?_) | (with_reducible refine W.seq ?_) | (with_reducible refine W.region ?_) | (with_reducible refine W.ret ?_) | ((with_reducible apply W.condT); exact rfl) | ((with_reducible apply Done.f); (intro hh hh2; exact (nomatch hh2)); (focus ((repeat' first | exact all_nil | apply all_cons | exact res_tmp rfl | exact rfl); done)); (focus ((repeat' first | exact all_nil | apply all_cons | exact retOf_s rfl | exact retOf_o rfl rfl (by first | exact encC_length _ | exact IsLawn.len (by assumption) | exact rfl) | exact rfl); done)); exact rfl; (focus ((repeat' first | exact outs_nil | apply outs_d | exact rfl); done))) | (intro hb; try (exfalso; omega)) | ((with_reducible apply WR.bx); exact rfl; exact rfl; exact (by first | exact encC_length _ | exact IsLawn.len (by assumption) | exact rfl); (exact rfl)) | ((with_reducible apply WR.ex); exact rfl; exact rfl) | ((with_reducible apply WR.neq); exact rfl; exact rfl; exact rfl) | ((with_reducible apply WR.ld); exact rfl; exact rfl; exact rfl; (first | exact ld2)) | ((with_reducible apply WR.bs0); exact rfl; (exact rfl))
    all_goals first | rfl | exact absurd (by assumption) h0
end Go.DM
