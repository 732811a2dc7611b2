/- Whether a way mows all grass: both sides, the statement. -/
import Derived.Test.YtgbifpijjfolbaaGreatK441Meet
set_option linter.all false
set_option maxHeartbeats 4000000
namespace Go.DM
variable [Tok]
open Go.IntWalk
variable {w h : Int} {g : Nat → Int} {cs : List S}
theorem contains_gives (L : List Cel) (hl : L.length ≤ 1000) (x y : Int) : Gives G 83 [asl L, ac x y] (rb (decide ((x, y) ∈ L))) := by
  have hi := index_gives L hl x y
  have hm : (0 ≤ idxOf (fun c => x = c.1 ∧ y = c.2) L 0) ↔ (x, y) ∈ L := by
    rw [idxOf_nonneg _ L 0 (by omega)]
    constructor
    · rintro ⟨c, h1, h2, h3⟩
      obtain ⟨a, b⟩ := c
      simp only at h2 h3
      rw [h2, h3]; exact h1
    · intro h1; exact ⟨_, h1, rfl, rfl⟩
  generalize idxOf (fun c => x = c.1 ∧ y = c.2) L 0 = k at hi hm
  refine Gives.by rfl rfl (W.seq ?_)
  repeat' first | ((with_reducible apply WR.c_s (f := 27) (fn := Code.f27)); (iterate 3 exact rfl); exact rfl; (focus ((repeat' first | exact args_nil | apply args_d | exact toD_d rfl | exact all_nil | apply all_cons | exact rfl); done)); exact hi) | ((with_reducible apply WR.mv); exact rfl; exact rfl) | (with_reducible first | apply WR.nil | refine andThen_n ?_ | refine W.seq ?_ | refine W.region ?_ | refine W.ret ?_) | ((with_reducible apply Done.f); (intro hh hh2; exact (nomatch hh2)); (focus ((repeat' first | exact all_nil | apply all_cons | exact res_tmp rfl | exact rfl); done)); (focus ((repeat' first | exact all_nil | apply all_cons | exact retOf_s rfl | exact rfl); done)); exact rfl; (focus ((repeat' first | exact outs_nil | apply outs_d | exact rfl); done))) | (intro hb; try (exfalso; omega)) | ((with_reducible apply WR.geq); iterate 3 exact rfl) | ((with_reducible apply WR.bx); exact rfl; exact rfl; exact (by first | exact rfl); exact rfl) | ((with_reducible apply WR.ld); (iterate 3 exact rfl); (exact ld2))
  · exact rb_t (hm.1 (by assumption))
  · exact rb_f (fun hh => absurd (hm.2 hh) (by assumption))
theorem leftF_gives (l : IsLawn w h g cs) (hs : w ≤ 10 ∧ h ≤ 10) (L : List Cel) (hl : L.length ≤ 1000) (x y : Int) : Gives G 82 [ac x y, ar cs, .d (.refd (.sl L.length 2 (encC L)))] (rb (decide (Is w h g 0 x y ∧ (x, y) ∉ L))) := by
  have hg := grass_gives l x y (.inl hs)
  have hc := contains_gives L hl x y
  refine Gives.by rfl rfl (W.seq ?_)
  repeat' first | ((with_reducible apply WR.c_p (f := 32) (fn := Code.f32)); (iterate 3 exact rfl); exact rfl; (focus ((repeat' first | exact args_nil | apply args_d | exact toD_d rfl | exact all_nil | apply all_cons | exact rfl); done)); exact hg) | ((with_reducible apply WR.c_p (f := 83) (fn := Code.f83)); (iterate 3 exact rfl); exact rfl; (focus ((repeat' first | exact args_nil | apply args_d | exact toD_d rfl | exact all_nil | apply all_cons | exact rfl); done)); exact hc) | ((with_reducible apply WR.ld); (iterate 3 exact rfl); (first | exact ld2 | exact loadC_all (IsLawn.len (by assumption)))) | ((with_reducible apply WR.ldr); exact rfl; exact rfl; (first | exact ld2 | exact loadC_all (IsLawn.len (by assumption)))) | ((with_reducible first | apply WR.lx | apply WR.mv | apply WR.un | apply WR.pk); exact rfl; exact rfl) | (with_reducible first | apply WR.nil | refine andThen_n ?_ | refine W.seq ?_ | refine W.region ?_ | refine W.ret ?_) | ((with_reducible apply Done.f); (intro hh hh2; exact (nomatch hh2)); (focus ((repeat' first | exact all_nil | apply all_cons | exact res_tmp rfl | exact rfl); done)); (focus ((repeat' first | exact all_nil | apply all_cons | exact retOf_s rfl | exact rfl); done)); exact rfl; (focus ((repeat' first | exact outs_nil | apply outs_d | exact rfl); done))) | (intro hb; try (exfalso; omega)) | ((with_reducible apply WR.off); exact rfl) | ((with_reducible apply WR.bx); exact rfl; exact rfl; exact (by first | exact rfl); exact rfl)
  all_goals first
    | exact rb_t ⟨by assumption, by assumption⟩
    | exact rb_f (fun hh => absurd hh.1 (by assumption))
    | exact rb_f (fun hh => absurd (by assumption) hh.2)
theorem holds_left (l : IsLawn w h g cs) (hs : w ≤ 10 ∧ h ≤ 10) (L : List Cel) (hl : L.length ≤ 1000) :
    HoldsC G (.clo 82 [] [.ref cs, .refd (.sl L.length 2 (encC L))]) (fun c => Is w h g 0 c.1 c.2 ∧ c ∉ L) (fun _ => True) :=
  ⟨82, Code.f82, _, _, rfl, rfl, rfl, fun c _ => leftF_gives l hs L hl c.1 c.2⟩
def leftL (w h : Int) (g : Nat → Int) (L : List Cel) : List Cel := those w h fun c => Is w h g 0 c.1 c.2 ∧ c ∉ L
theorem leftBy_gives (l : IsLawn w h g cs) (c : Cel) (s : List UInt8) :
    Gives G 41 [aa cs, ac c.1 c.2, .d (.s (.str s))] (if goneC w h g c s = 0 then ⟨[.own (leftL w h g (trk s c s.length)).length 2 (encC (leftL w h g (trk s c s.length))), .s (.int .i64 0)], []⟩ else ⟨[.s .nils, .s (.int .i64 (goneC w h g c s))], []⟩) := by
  have hw := walked_gives l c s
  by_cases h0 : goneC w h g c s = 0
  · obtain ⟨ht, hO⟩ := gone_zero h0
    obtain ⟨hs, hH, hl, hlt⟩ := told_ok ht
    have hlen := trk_len s c s.length
    rw [if_pos h0] at hw ⊢
    have hth := those_gives l (by omega) (holds_left l ⟨by omega, by omega⟩ (trk s c s.length) (by omega)) (fun _ _ => trivial)
    unfold leftL
    generalize trk s c s.length = T at hw hth hlen ⊢
    generalize those w h (fun c => Is w h g 0 c.1 c.2 ∧ c ∉ T) = R at hth ⊢
    refine Gives.by rfl rfl (W.seq ?_)
    repeat' first | ((with_reducible apply WR.c_os (f := 81) (fn := Code.f81)); (iterate 3 exact rfl); exact rfl; (focus ((repeat' first | exact args_nil | apply args_d | exact toD_d rfl | exact toD_ptr rfl rfl | exact toD_slC rfl rfl (by first | exact rfl) | (apply toD_clo; exact rfl) | exact all_nil | apply all_cons | (apply toDA_var; exact rfl) | exact rfl); done)); exact hw; exact rfl) | ((with_reducible apply WR.c_o (f := 31) (fn := Code.f31)); (iterate 3 exact rfl); exact rfl; (focus ((repeat' first | exact args_nil | apply args_d | exact toD_d rfl | exact toD_ptr rfl rfl | exact toD_slC rfl rfl (by first | exact rfl) | (apply toD_clo; exact rfl) | exact all_nil | apply all_cons | (apply toDA_var; exact rfl) | exact rfl); done)); exact hth; exact rfl) | ((with_reducible apply WR.mv); exact rfl; exact rfl) | ((with_reducible first | apply WR.mvt | apply WR.ex | apply WR.mf); exact rfl; exact rfl) | ((with_reducible apply WR.ld); (iterate 3 exact rfl); (first | exact ld2 | exact loadC_all (IsLawn.len (by assumption)))) | (with_reducible first | apply WR.nil | refine andThen_n ?_ | refine W.seq ?_ | refine W.region ?_ | refine W.skip ?_ | refine W.ret ?_) | ((with_reducible apply W.condF); exact rfl) | ((with_reducible apply Done.f); (intro hh hh2; exact (nomatch hh2)); (focus ((repeat' first | exact all_nil | apply all_cons | exact res_tmp rfl | exact rfl); done)); (focus ((repeat' first | exact all_nil | apply all_cons | exact retOf_s rfl | exact retOf_o rfl rfl (by first | exact encC_length _ | exact IsLawn.len (by assumption) | exact rfl) | exact rfl); done)); exact rfl; (focus ((repeat' first | exact outs_nil | apply outs_d | exact rfl); done))) | (intro hb; try (exfalso; omega)) | ((with_reducible apply WR.bx); exact rfl; exact rfl; exact (by first | exact encC_length _ | exact IsLawn.len (by assumption) | exact rfl); exact rfl) | ((with_reducible apply WR.neq); iterate 3 exact rfl) | ((with_reducible apply WR.al); exact rfl; exact rfl) | ((with_reducible apply WR.st); iterate 4 exact rfl)
    all_goals rfl
  · rw [if_neg h0] at hw ⊢
    refine Gives.by rfl rfl (W.seq ?_)
    repeat' first | ((with_reducible apply WR.c_ss (f := 81) (fn := Code.f81)); (iterate 3 exact rfl); exact rfl; (focus ((repeat' first | exact args_nil | apply args_d | exact toD_d rfl | exact all_nil | apply all_cons | exact rfl); done)); exact hw) | ((with_reducible apply WR.mv); exact rfl; exact rfl) | ((with_reducible first | apply WR.mvt | apply WR.ex); exact rfl; exact rfl) | ((with_reducible apply WR.ld); (iterate 3 exact rfl); (first | exact ld2 | exact loadC_all (IsLawn.len (by assumption)))) | (with_reducible first | apply WR.nil | refine andThen_n ?_ | refine andThen_r ?_ | refine W.seq ?_ | refine W.region ?_ | refine W.ret ?_) | ((with_reducible apply W.condT); exact rfl) | ((with_reducible apply Done.f); (intro hh hh2; exact (nomatch hh2)); (focus ((repeat' first | exact all_nil | apply all_cons | exact res_tmp rfl | exact rfl); done)); (focus ((repeat' first | exact all_nil | apply all_cons | exact retOf_s rfl | exact rfl); done)); exact rfl; (focus ((repeat' first | exact outs_nil | apply outs_d | exact rfl); done))) | (intro hb; try (exfalso; omega)) | ((with_reducible apply WR.bx); exact rfl; exact rfl; exact (by first | exact IsLawn.len (by assumption) | exact rfl); exact rfl) | ((with_reducible apply WR.neq); iterate 3 exact rfl) | ((with_reducible apply WR.al); exact rfl; exact rfl) | ((with_reducible apply WR.st); (iterate 3 exact rfl); exact storeAll (by first | exact IsLawn.len (by assumption) | exact rfl) (by first | exact IsLawn.len (by assumption) | exact rfl))
    all_goals first | rfl | exact absurd (by assumption) h0
theorem isWhole_gives (l : IsLawn w h g cs) (c : Cel) (s : List UInt8) :
    Gives G 18 [aa cs, ac c.1 c.2, .d (.s (.str s))] ⟨[.s (.bool (decide (goneC w h g c s = 0 ∧ (leftL w h g (trk s c s.length)).length = 0))), .s (.int .i64 (goneC w h g c s))], []⟩ := by
  have hw := leftBy_gives l c s
  generalize leftL w h g (trk s c s.length) = T at hw ⊢
  by_cases h0 : goneC w h g c s = 0
  · rw [if_pos h0] at hw
    rw [h0]
    refine Gives.by rfl rfl (W.seq ?_)
    repeat' first | ((with_reducible apply WR.c_os (f := 41) (fn := Code.f41)); (iterate 3 exact rfl); exact rfl; (focus ((repeat' first | exact args_nil | apply args_d | exact toD_d rfl | exact all_nil | apply all_cons | exact rfl); done)); exact hw; exact rfl) | ((with_reducible apply WR.mv); exact rfl; exact rfl) | ((with_reducible first | apply WR.mvt | apply WR.ex | apply WR.pk | apply WR.le); exact rfl; exact rfl) | (with_reducible first | apply WR.nil | refine andThen_n ?_ | refine W.seq ?_ | refine W.region ?_ | refine W.ret ?_) | ((with_reducible apply Done.f); (intro hh hh2; exact (nomatch hh2)); (focus ((repeat' first | exact all_nil | apply all_cons | exact res_tmp rfl | exact rfl); done)); (focus ((repeat' first | exact all_nil | apply all_cons | exact retOf_s rfl | exact rfl); done)); exact rfl; (focus ((repeat' first | exact outs_nil | apply outs_d | exact rfl); done))) | (intro hb; try (exfalso; omega)) | ((with_reducible apply WR.eql); iterate 3 exact rfl) | ((with_reducible apply WR.bx); exact rfl; exact rfl; exact (by first | exact IsLawn.len (by assumption) | exact rfl); exact rfl) | ((with_reducible apply WR.ld); (iterate 3 exact rfl); (first | exact ld2 | exact loadC_all (IsLawn.len (by assumption))))
    · rw [decide_eq_true ⟨rfl, by omega⟩]; rfl
    · rw [decide_eq_false (fun hh => by have := hh.2; omega)]; rfl
  · rw [if_neg h0] at hw
    refine Gives.by rfl rfl (W.seq ?_)
    repeat' first | ((with_reducible apply WR.c_ss (f := 41) (fn := Code.f41)); (iterate 3 exact rfl); exact rfl; (focus ((repeat' first | exact args_nil | apply args_d | exact toD_d rfl | exact all_nil | apply all_cons | exact rfl); done)); exact hw) | ((with_reducible apply WR.mv); exact rfl; exact rfl) | ((with_reducible first | apply WR.mvt | apply WR.ex | apply WR.pk); exact rfl; exact rfl) | (with_reducible first | apply WR.nil | refine andThen_n ?_ | refine W.seq ?_ | refine W.region ?_ | refine W.ret ?_) | ((with_reducible apply Done.f); (intro hh hh2; exact (nomatch hh2)); (focus ((repeat' first | exact all_nil | apply all_cons | exact res_tmp rfl | exact rfl); done)); (focus ((repeat' first | exact all_nil | apply all_cons | exact retOf_s rfl | exact rfl); done)); exact rfl; (focus ((repeat' first | exact outs_nil | apply outs_d | exact rfl); done))) | (intro hb; try (exfalso; omega)) | ((with_reducible apply WR.eql); iterate 3 exact rfl) | ((with_reducible apply WR.bx); exact rfl; exact rfl; exact (by first | exact IsLawn.len (by assumption) | exact rfl); exact rfl) | ((with_reducible apply WR.ld); (iterate 3 exact rfl); (first | exact ld2 | exact loadC_all (IsLawn.len (by assumption)))) | ((with_reducible apply WR.off); exact rfl)
    rw [decide_eq_false (fun hh => h0 hh.1)]; rfl
def timesF (g : Nat → Int) (L : List Cel) : Nat → Int := L.foldl (fun q e => if g (ix e) = 0 then gset q (ix e) (q (ix e) + 1) else q) fun _ => 0
theorem l02Times_gives (l : IsLawn w h g cs) (hs : w ≤ 10 ∧ h ≤ 10) (L : List Cel) (hl : L.length ≤ 1000) (hL : ∀ e ∈ L, Has w h e.1 e.2) : Gives G 80 [ar cs, asl L] ⟨[.agg (grid .i64 (timesF g L))], []⟩ := by
  refine Gives.by rfl rfl (W.seq ?_)
  repeat' first | ((with_reducible first | apply WR.mv | apply WR.bu); exact rfl; exact rfl) | (with_reducible first | apply WR.nil | refine andThen_n ?_ | refine W.seq ?_ | refine W.region ?_ | refine W.block ?_) | ((with_reducible apply WR.al); exact rfl; exact rfl) | ((with_reducible apply WR.st); (iterate 3 exact rfl); exact storeAll (by first | exact List.length_replicate .. | exact rfl) (by first | exact List.length_replicate .. | exact rfl))
  (refine (?_ : W _ (Code.loop _) _ _))
  (refine W.loopM [0, 1, 4, 5] [4] [] (fun ((i, q) : (Nat) × (Nat → Int)) => (L.length - i : Nat)) (fun ((i, q) : (Nat) × (Nat → Int)) => (i ≤ L.length ∧ q = timesF g (L.take i) ∧ ∀ k, 0 ≤ q k ∧ q k ≤ i : Prop)) (fun z : (Nat) × (Nat → Int) => match z with | (i, q) => [(6, .a (.d (.s (.int .i64 (i : Nat)))))]) (fun z : (Nat) × (Nat → Int) => match z with | (i, q) => [(5, .flat false (grid .i64 q))]) (0, fun _ => 0) (⟨by omega, rfl, fun k => by simp⟩) ⟨rfl, trivial⟩ ⟨rfl, trivial⟩ trivial ?_)
  rintro ⟨i, q⟩ σ hP hN; dsimp only [setL, putL] at hP ⊢
  obtain ⟨hi, hq, hb0⟩ := hP
  by_cases hil : i < L.length
  · have hH := hL _ (gC_mem hil)
    have hst : timesF g (L.take (i + 1)) = if g (ix (gC L i)) = 0 then gset q (ix (gC L i)) (q (ix (gC L i)) + 1) else q := by
      unfold timesF at hq ⊢
      rw [fold_snoc _ (gC_get hil), ← hq]
    have hbi := hb0 (10 * (gC L i).2.toNat + (gC L i).1.toNat)
    repeat' first | ((with_reducible apply WR.c_s (f := 61) (fn := Code.f61)); (iterate 3 exact rfl); exact rfl; (focus ((repeat' first | exact args_nil | apply args_d | exact toD_d rfl | exact rfl); done)); exact l01At_gives (by assumption) _ _ (by omega)) | ((with_reducible first | apply WR.mv | apply WR.le); exact rfl; exact rfl) | ((with_reducible first | apply WH.mv | apply WH.fa | apply WR.lss | apply WR.eql); iterate 3 exact rfl) | ((with_reducible apply WH.ia); (iterate 3 exact rfl); omega; exact rfl) | (with_reducible first | apply WR.nil | refine andThen_n ?_ | refine inB_n ?_ | refine W.seq ?_ | refine W.region ?_ | refine W.skip ?_ | refine W.block ?_ | apply WH.nil | refine W.draw ?_) | ((with_reducible apply W.condT); exact rfl) | ((with_reducible apply W.condF); exact rfl) | ((with_reducible apply WH.ld); (iterate 3 exact rfl); (first | exact ldCd (by first | omega) | exact ldCxd (by first | omega) | exact ldCyd (by first | omega) | exact ldG (by omega)); exact rfl) | ((with_reducible apply WH.ldd); exact rfl; exact rfl; (first | exact ldCd (by first | omega) | exact ldCxd (by first | omega) | exact ldCyd (by first | omega) | exact ldG (by omega)); exact rfl) | (intro hb; try (exfalso; omega)) | ((with_reducible apply WR.ldd); exact rfl; exact rfl; (first | exact ldCd (by first | omega) | exact ldCxd (by first | omega) | exact ldCyd (by first | omega) | exact ldG (by omega))) | ((with_reducible apply WH.idn); (iterate 3 exact rfl); omega; (exact Nat.le_of_eq (encC_length _).symm); exact rfl) | ((with_reducible apply WR.ad); (iterate 3 exact rfl); (exact i64_in _ (by omega))) | ((with_reducible apply WR.idn); (iterate 3 exact rfl); omega; (exact Nat.le_of_eq (encC_length _).symm)) | ((with_reducible apply WH.ad); (iterate 3 exact rfl); (exact i64_in _ (by omega))) | ((with_reducible apply WH.st); (iterate 3 exact rfl); exact stG (by omega); exact rfl; exact rfl)
    · rw [if_pos (show g (ix (gC L i)) = 0 by assumption)] at hst
      (refine W.nxt (i + 1, gset q (ix (gC L i)) (q (ix (gC L i)) + 1)) (by first | omega | (dsimp only; omega)) ?_ ⟨rfl, trivial⟩ ⟨rfl, trivial⟩ ⟨rfl, rfl, rfl, rfl, trivial⟩ ⟨rfl, trivial⟩ trivial); (try dsimp only)
      refine ⟨by omega, hst.symm, fun k => ?_⟩
      have h1 := hb0 k
      simp only [gset]
      split
      · have h2 := hb0 (ix (gC L i)); omega
      · omega
    · rw [if_neg (show ¬ g (ix (gC L i)) = 0 by assumption)] at hst
      (refine W.nxt (i + 1, q) (by first | omega | (dsimp only; omega)) ?_ ⟨rfl, trivial⟩ ⟨rfl, trivial⟩ ⟨rfl, rfl, rfl, rfl, trivial⟩ ⟨rfl, trivial⟩ trivial); (try dsimp only)
      exact ⟨by omega, hq.symm ▸ hst.symm, fun k => by have h1 := hb0 k; omega⟩
  · have hil2 : L.take i = L := List.take_of_length_le (by omega)
    rw [hil2] at hq
    rw [← hq]
    repeat' first | ((with_reducible first | apply WR.mv | apply WR.le); exact rfl; exact rfl) | (with_reducible first | apply WR.nil | refine andThen_n ?_ | refine andThen_x ?_ | refine inB_x ?_ | refine W.seq ?_ | refine W.region ?_ | refine W.ret ?_ | refine W.exit ?_) | ((with_reducible apply W.condF); exact rfl) | ((with_reducible apply Done.f); (intro hh hh2; exact (nomatch hh2)); (focus ((repeat' first | exact all_nil | apply all_cons | exact res_cell rfl rfl (by first | exact List.length_replicate .. | exact grid_len)); done)); (focus ((repeat' first | exact all_nil | apply all_cons | exact retOf_a rfl); done)); exact rfl; (focus ((repeat' first | exact outs_nil | apply outs_d); done))) | (intro hb; try (exfalso; omega)) | ((with_reducible apply WR.ld); (iterate 3 exact rfl); (exact loadC_all grid_len)) | ((with_reducible apply WR.st); (iterate 3 exact rfl); exact storeAll (by first | exact List.length_replicate .. | exact grid_len) (by first | exact List.length_replicate .. | exact grid_len)) | ((with_reducible apply WR.lss); iterate 3 exact rfl)
    all_goals rfl
def mownL (w h : Int) (g : Nat → Int) (T : List Cel) (b : Bool) : List Cel := (ofKind w h g 0).filter fun e => decide (timesF g T (ix e) > 0) == b
theorem timesF_b : ∀ (T : List Cel) (q : Nat → Int) (n : Int), (∀ k, 0 ≤ q k ∧ q k ≤ n) → ∀ k, 0 ≤ T.foldl (fun q e => if g (ix e) = 0 then gset q (ix e) (q (ix e) + 1) else q) q k ∧ T.foldl (fun q e => if g (ix e) = 0 then gset q (ix e) (q (ix e) + 1) else q) q k ≤ n + T.length
  | [], q, n, hq, k => by have := hq k; simp; omega
  | e :: r, q, n, hq, k => by
    rw [List.foldl_cons]
    have := timesF_b r (if g (ix e) = 0 then gset q (ix e) (q (ix e) + 1) else q) (n + 1) (fun k => by
      have h1 := hq k
      split
      · simp only [gset]
        split
        · have h2 := hq (ix e); omega
        · omega
      · omega) k
    rw [List.length_cons]
    omega
theorem l02Mown_gives (l : IsLawn w h g cs) (hs : 0 ≤ w ∧ w ≤ 10 ∧ 0 ≤ h ∧ h ≤ 10) (T : List Cel) (hT : T.length ≤ 1000) (hTh : ∀ e ∈ T, Has w h e.1 e.2) (b : Bool) : Gives G 40 [ar cs, asl T, ab b] ⟨[.own (mownL w h g T b).length 2 (encC (mownL w h g T b))], []⟩ := by
  have hth := l01Cells_gives l 0 (by omega)
  have htm := l02Times_gives l ⟨by omega, by omega⟩ T hT hTh
  have hqb : ∀ k, 0 ≤ timesF g T k ∧ timesF g T k ≤ 1000 := fun k => by
    have := timesF_b (g := g) T (fun _ => 0) 0 (fun k => by simp) k
    unfold timesF; omega
  have hin : ∀ e ∈ ofKind w h g 0, Has w h e.1 e.2 := fun e he => by
    unfold ofKind at he; rw [List.mem_filter] at he; exact allC_mem he.1
  have hLl : (ofKind w h g 0).length ≤ 100 := Nat.le_trans (List.length_filter_le ..) (allC_len ⟨by omega, by omega⟩)
  have hbd : mownL w h g T b = (ofKind w h g 0).filter fun e => decide (timesF g T (ix e) > 0) == b := rfl
  generalize mownL w h g T b = R at hbd ⊢
  generalize timesF g T = q at htm hqb hbd
  generalize ofKind w h g 0 = L at hth hin hLl hbd
  refine Gives.by rfl rfl (W.seq ?_)
  repeat' first | ((with_reducible apply WR.c_a (f := 80) (fn := Code.f80)); (iterate 3 exact rfl); exact rfl; (focus ((repeat' first | exact args_nil | apply args_d | exact toD_d rfl | exact rfl); done)); exact htm) | ((with_reducible apply WR.c_o (f := 29) (fn := Code.f29)); (iterate 3 exact rfl); exact rfl; (focus ((repeat' first | exact args_nil | apply args_d | exact toD_d rfl | exact rfl); done)); exact hth; exact rfl) | ((with_reducible apply WR.mv); exact rfl; exact rfl) | (with_reducible first | apply WR.nil | refine andThen_n ?_ | refine W.seq ?_ | refine W.region ?_ | refine W.block ?_) | ((with_reducible first | apply WR.bs0 | apply WR.al); exact rfl; exact rfl) | ((with_reducible apply WR.st); (iterate 3 exact rfl); exact storeAll (by first | exact List.length_replicate .. | exact grid_len | exact rfl) (by first | exact List.length_replicate .. | exact grid_len | exact rfl))
  (refine (?_ : W _ (Code.loop _) _ _))
  (refine W.loopM [2, 7, 9] [7, 16] [44, 45] (fun ((i, out) : (Nat) × (List Cel)) => (L.length - i : Nat)) (fun ((i, out) : (Nat) × (List Cel)) => (i ≤ L.length ∧ out.length ≤ 100 ∧ out = (L.take i).filter (fun e => decide (q (ix e) > 0) == b) : Prop)) (fun z : (Nat) × (List Cel) => match z with | (i, out) => [(8, .a (.sl 14 0 out.length 2)), (10, .a (.d (.s (.int .i64 (i : Nat)))))]) (fun z : (Nat) × (List Cel) => match z with | (i, out) => [(14, .flat false (encC out))]) (0, []) (⟨by omega, by simp, by simp⟩) ⟨rfl, rfl, trivial⟩ ⟨rfl, trivial⟩ ⟨np, np, trivial⟩ ?_)
  rintro ⟨i, out⟩ σ hP hN; dsimp only [setL, putL] at hP ⊢; obtain ⟨n44, hN⟩ := hN; obtain ⟨n45, hN⟩ := hN
  obtain ⟨hi, hl, ho⟩ := hP
  by_cases hil : i < L.length
  · have hH := hin _ (gC_mem hil)
    have hst := filter_snoc (p := fun e => decide (q (ix e) > 0) == b) (gC_get hil)
    have hlen : ((L.take (i + 1)).filter fun e => decide (q (ix e) > 0) == b).length ≤ 100 := Nat.le_trans (List.length_filter_le ..) (by rw [List.length_take]; omega)
    rw [← ho] at hst
    cases b
    all_goals
      repeat' first | ((with_reducible first | apply WR.mv | apply WR.le); exact rfl; exact rfl) | ((with_reducible first | apply WH.mv | apply WH.fa | apply WR.lss | apply WH.gtr | apply WH.ebb); iterate 3 exact rfl) | (with_reducible first | apply WR.nil | refine andThen_n ?_ | refine inB_n ?_ | refine W.seq ?_ | refine W.region ?_ | refine W.skip ?_ | refine W.block ?_ | apply WH.nil | refine W.draw ?_) | ((with_reducible apply W.condT); exact rfl) | ((with_reducible apply W.condF); exact rfl) | ((with_reducible apply WH.ld); (iterate 3 exact rfl); (first | exact ldC (by first | omega) | exact ldCx (by first | omega) | exact ldCy (by first | omega) | exact ldG (by omega)); exact rfl) | (intro hb; try (exfalso; omega)) | ((with_reducible apply WR.bs1); exact rfl; exact rfl; (assumption)) | ((with_reducible first | apply WH.isn | apply WH.ia); (iterate 3 exact rfl); omega; exact rfl) | ((with_reducible apply WR.ad); (iterate 3 exact rfl); (first | exact i64_in _ (by omega) | assumption)) | ((with_reducible apply WR.isn); (iterate 3 exact rfl); omega) | ((with_reducible apply WR.ld); (iterate 3 exact rfl); (first | exact ldC (by first | omega) | exact ldCx (by first | omega) | exact ldCy (by first | omega) | exact ldG (by omega))) | ((with_reducible apply WR.apC); (iterate 4 exact rfl); omega)
    all_goals first
      | (rw [if_pos (by first | (rw [decide_eq_true (show q (ix (gC L i)) > 0 by assumption)]; rfl) | (rw [decide_eq_false (show ¬ q (ix (gC L i)) > 0 by assumption)]; rfl))] at hst
         (refine W.nxt (i + 1, out ++ [gC L i]) (by first | omega | (dsimp only; omega)) ?_ ⟨rfl, rfl, trivial⟩ ⟨rfl, trivial⟩ ⟨rfl, rfl, rfl, trivial⟩ ⟨rfl, rfl, trivial⟩ ⟨np, np, trivial⟩); (try dsimp only)
         exact ⟨by omega, by rw [← hst]; exact hlen, hst.symm⟩)
      | (rw [if_neg (by first | (rw [decide_eq_true (show q (ix (gC L i)) > 0 by assumption)]; decide) | (rw [decide_eq_false (show ¬ q (ix (gC L i)) > 0 by assumption)]; decide)), List.append_nil] at hst
         (refine W.nxt (i + 1, out) (by first | omega | (dsimp only; omega)) ?_ ⟨rfl, rfl, trivial⟩ ⟨rfl, trivial⟩ ⟨rfl, rfl, rfl, trivial⟩ ⟨rfl, rfl, trivial⟩ ⟨np, np, trivial⟩); (try dsimp only)
         exact ⟨by omega, by omega, hst.symm⟩)
  · rw [show L.take i = L from List.take_of_length_le (by omega)] at ho
    repeat' first | ((with_reducible first | apply WR.mv | apply WR.le); exact rfl; exact rfl) | (with_reducible first | apply WR.nil | refine andThen_n ?_ | refine andThen_x ?_ | refine inB_x ?_ | refine W.seq ?_ | refine W.region ?_ | refine W.ret ?_ | refine W.exit ?_) | ((with_reducible apply W.condF); exact rfl) | ((with_reducible apply Done.f); (intro hh hh2; exact (nomatch hh2)); (focus ((repeat' first | exact all_nil | apply all_cons | exact res_tmp rfl); done)); (focus ((repeat' first | exact all_nil | apply all_cons | exact retOf_o rfl rfl (by first | exact encC_length _)); done)); exact rfl; (focus ((repeat' first | exact outs_nil | apply outs_d); done))) | (intro hb; try (exfalso; omega)) | ((with_reducible apply WR.lss); iterate 3 exact rfl)
    rw [hbd, ho]; rfl
theorem trk_has {c : Cel} {s : List UInt8} (hO : OpnW w h g c s) : ∀ e ∈ trk s c s.length, Has w h e.1 e.2 := fun e he => by
  obtain ⟨j, h1, rfl⟩ := trk_mem he
  exact (hO j (by omega)).1
theorem isWholeS_gives (l : IsLawn w h g cs) (c : Cel) (hx : InB c) (s : List UInt8) :
    Gives G 17 [aa cs, ac c.1 c.2, .d (.s (.str s))] ⟨[.s (.bool (decide (goneC w h g c s = 0 ∧ (mownL w h g (trk s c s.length) false).length = 0))), .s (.int .i64 (goneC w h g c s))], []⟩ := by
  have hw := l02Gone_gives l c hx s
  by_cases h0 : goneC w h g c s = 0
  · obtain ⟨ht, hO⟩ := gone_zero h0
    obtain ⟨hs, hH, hl, hlt⟩ := told_ok ht
    have hlen := trk_len s c s.length
    have hm := l02Mown_gives l (by omega) (trk s c s.length) (by omega) (trk_has hO) false
    rw [if_pos h0] at hw
    rw [h0]
    generalize mownL w h g (trk s c s.length) false = R at hm ⊢
    generalize trk s c s.length = T at hw hm hlen
    refine Gives.by rfl rfl (W.seq ?_)
    repeat' first | ((with_reducible apply WR.c_os (f := 39) (fn := Code.f39)); (iterate 3 exact rfl); exact rfl; (focus ((repeat' first | exact args_nil | apply args_d | exact toD_d rfl | exact toD_ptr rfl rfl | exact toD_slC rfl rfl (by first | exact rfl) | exact all_nil | apply all_cons | exact rfl); done)); exact hw; exact rfl) | ((with_reducible apply WR.c_o (f := 40) (fn := Code.f40)); (iterate 3 exact rfl); exact rfl; (focus ((repeat' first | exact args_nil | apply args_d | exact toD_d rfl | exact toD_ptr rfl rfl | exact toD_slC rfl rfl (by first | exact rfl) | exact all_nil | apply all_cons | exact rfl); done)); exact hm; exact rfl) | ((with_reducible apply WR.mv); exact rfl; exact rfl) | ((with_reducible first | apply WR.mvt | apply WR.ex | apply WR.le); exact rfl; exact rfl) | (with_reducible first | apply WR.nil | refine andThen_n ?_ | refine W.seq ?_ | refine W.region ?_ | refine W.skip ?_ | refine W.ret ?_) | ((with_reducible apply W.condF); exact rfl) | ((with_reducible apply Done.f); (intro hh hh2; exact (nomatch hh2)); (focus ((repeat' first | exact all_nil | apply all_cons | exact res_tmp rfl | exact rfl); done)); (focus ((repeat' first | exact all_nil | apply all_cons | exact retOf_s rfl | exact rfl); done)); exact rfl; (focus ((repeat' first | exact outs_nil | apply outs_d | exact rfl); done))) | (intro hb; try (exfalso; omega)) | ((with_reducible apply WR.bx); exact rfl; exact rfl; exact (by first | exact IsLawn.len (by assumption) | exact rfl); exact rfl) | ((with_reducible first | apply WR.eql | apply WR.neq); iterate 3 exact rfl) | ((with_reducible apply WR.ld); (iterate 3 exact rfl); (exact ld2))
    · rw [decide_eq_true ⟨rfl, by omega⟩]; rfl
    · rw [decide_eq_false (fun hh => by have := hh.2; omega)]; rfl
  · rw [if_neg h0] at hw
    generalize mownL w h g (trk s c s.length) false = R
    refine Gives.by rfl rfl (W.seq ?_)
    repeat' first | ((with_reducible apply WR.c_os (f := 39) (fn := Code.f39)); (iterate 3 exact rfl); exact rfl; (focus ((repeat' first | exact args_nil | apply args_d | exact toD_d rfl | exact toD_ptr rfl rfl | exact all_nil | apply all_cons | exact rfl); done)); exact hw; exact rfl) | ((with_reducible apply WR.mv); exact rfl; exact rfl) | ((with_reducible first | apply WR.mvt | apply WR.ex); exact rfl; exact rfl) | (with_reducible first | apply WR.nil | refine andThen_n ?_ | refine andThen_r ?_ | refine W.seq ?_ | refine W.region ?_ | refine W.ret ?_) | ((with_reducible apply W.condT); exact rfl) | ((with_reducible apply Done.f); (intro hh hh2; exact (nomatch hh2)); (focus ((repeat' first | exact all_nil | apply all_cons | exact res_tmp rfl | exact rfl); done)); (focus ((repeat' first | exact all_nil | apply all_cons | exact retOf_s rfl | exact rfl); done)); exact rfl; (focus ((repeat' first | exact outs_nil | apply outs_d | exact rfl); done))) | (intro hb; try (exfalso; omega)) | ((with_reducible apply WR.bx); exact rfl; exact rfl; exact (by first | exact IsLawn.len (by assumption) | exact rfl); exact rfl) | ((with_reducible apply WR.neq); iterate 3 exact rfl) | ((with_reducible apply WR.ld); (iterate 3 exact rfl); (exact ld2))
    rw [decide_eq_false (fun hh => h0 hh.1)]; rfl
theorem timesF_pos : ∀ (T : List Cel) (q : Nat → Int), (∀ k, 0 ≤ q k) → ∀ k, (T.foldl (fun q e => if g (ix e) = 0 then gset q (ix e) (q (ix e) + 1) else q) q k > 0 ↔ q k > 0 ∨ ∃ e ∈ T, g (ix e) = 0 ∧ ix e = k)
  | [], q, hq, k => by simp
  | e :: r, q, hq, k => by
    rw [List.foldl_cons]
    have hq2 : ∀ k, 0 ≤ (if g (ix e) = 0 then gset q (ix e) (q (ix e) + 1) else q) k := fun k => by
      have h1 := hq k
      split
      · simp only [gset]
        split
        · have h2 := hq (ix e); omega
        · omega
      · omega
    rw [timesF_pos r _ hq2 k]
    have h3 := hq k
    have hk : (if g (ix e) = 0 then gset q (ix e) (q (ix e) + 1) else q) k > 0 ↔ q k > 0 ∨ (g (ix e) = 0 ∧ ix e = k) := by
      by_cases h1 : g (ix e) = 0
      · rw [if_pos h1]
        simp only [gset]
        by_cases h2 : k = ix e
        · rw [if_pos h2]
          have h4 := hq (ix e)
          constructor
          · intro _; exact .inr ⟨h1, h2.symm⟩
          · intro _; omega
        · rw [if_neg h2]
          exact ⟨fun h => .inl h, fun h => h.elim id fun h => absurd h.2.symm h2⟩
      · rw [if_neg h1]
        exact ⟨fun h => .inl h, fun h => h.elim id fun h => absurd h.1 h1⟩
    rw [hk]
    simp only [List.mem_cons, or_and_right, exists_or, exists_eq_left, or_assoc]
theorem left_mown (hs : w ≤ 10 ∧ h ≤ 10) {T : List Cel} (hT : ∀ e ∈ T, Has w h e.1 e.2) : leftL w h g T = mownL w h g T false := by
  unfold leftL mownL those ofKind
  rw [List.filter_filter]
  apply List.filter_congr
  intro e he
  have hh := allC_mem he
  have hp := timesF_pos (g := g) T (fun _ => 0) (fun _ => by simp) (ix e)
  by_cases h1 : g (ix e) = 0
  · have h2 : Is w h g 0 e.1 e.2 := ⟨hh, h1⟩
    have h3 : timesF g T (ix e) > 0 ↔ e ∈ T := by
      unfold timesF
      rw [hp]
      constructor
      · rintro (h4 | ⟨a, h4, h5, h6⟩)
        · simp at h4
        · rw [← ix_inj hs (hT a h4) hh h6]; exact h4
      · intro h4; exact .inr ⟨e, h4, h1, rfl⟩
    by_cases h4 : e ∈ T
    · simp [h2, h1, h4, h3.2 h4]
    · have h5 : ¬ timesF g T (ix e) > 0 := fun h => h4 (h3.1 h)
      simp [h2, h1, h4, h5]
  · have h2 : ¬ Is w h g 0 e.1 e.2 := fun h => h1 h.2
    simp [h2, h1]
end Go.DM
