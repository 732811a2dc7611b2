/- When a way has mown all grass for the first time: both sides, the statement. -/
import Derived.Test.YtadlffkjghjciaaGreatDoorK380Whole
set_option linter.unusedSectionVars false
set_option linter.unusedSimpArgs false
set_option linter.unusedVariables false
set_option maxHeartbeats 4000000
namespace Go.DM
variable [Tok]
open Go.IntWalk
variable {w h : Int} {g : Nat → Int} {cs : List S}
def leftN (w h : Int) (g : Nat → Int) (T : List Cel) (i : Nat) : Nat := (leftL w h g (T.take i)).length
def firstRes (T : List Cel) (k : Nat) : Res := if k < T.length then ⟨[.s (.int .i64 (k : Nat)), .s (.int .i64 0)], []⟩ else ⟨[.s (.int .i64 0), .s (.int .i64 6)], []⟩
theorem firstWholeS_ok (l : IsLawn w h g cs) (c : Cel) (hx : InB c) (s : List UInt8) (h0 : goneC w h g c s = 0) (k : Nat) (hk : k ≤ (trk s c s.length).length) (hp : ∀ j, j < k → leftN w h g (trk s c s.length) (j + 1) ≠ 0)
    (hn : k < (trk s c s.length).length → leftN w h g (trk s c s.length) (k + 1) = 0) : Gives G 162 [aa cs, ac c.1 c.2, .d (.s (.str s))] (firstRes (trk s c s.length) k) := by
  have hw := l02Gone_gives l c hx s
  obtain ⟨ht, hO⟩ := gone_zero h0
  obtain ⟨hs, hH, hl, hlt⟩ := told_ok ht
  have hlen := trk_len s c s.length
  have hth := trk_has hO
  rw [if_pos h0] at hw
  unfold firstRes
  generalize trk s c s.length = T at hw hlen hth hp hn hk ⊢
  have hm : ∀ i, i ≤ T.length → Gives G 40 [ar cs, asl (T.take i), ab false] ⟨[.own (leftN w h g T i) 2 (encC (mownL w h g (T.take i) false))], []⟩ := fun i hi => by
    have h1 := l02Mown_gives l (by omega) (T.take i) (by rw [List.length_take]; omega) (fun e he => hth e (List.mem_of_mem_take he)) false
    have h2 := left_mown (g := g) ⟨by omega, by omega⟩ (T := T.take i) (fun e he => hth e (List.mem_of_mem_take he))
    unfold leftN
    rw [h2]
    exact h1
  refine Gives.by rfl rfl (W.seq ?_)
  repeat' first | ((with_reducible apply WR.c_os (f := 39) (fn := Code.f39)); exact rfl; exact rfl; exact rfl; (exact rfl); (focus ((repeat' first | exact args_nil | apply args_d | exact toD_d rfl | exact toD_ptr rfl rfl | exact rfl); done)); exact hw; (exact rfl)) | ((with_reducible apply WR.mv); exact rfl; exact rfl) | ((with_reducible apply WR.mvt); exact rfl; exact rfl) | ((with_reducible apply WR.nil)) | (with_reducible refine andThen_n ?_) | (with_reducible refine W.seq ?_) | (with_reducible refine W.region ?_) | (with_reducible refine W.skip ?_) | (with_reducible refine W.block ?_) | ((with_reducible apply W.condF); exact rfl) | (intro hb; try (exfalso; omega)) | ((with_reducible apply WR.bx); exact rfl; exact rfl; exact (by first | exact IsLawn.len (by assumption) | exact rfl); (exact rfl)) | ((with_reducible apply WR.ex); exact rfl; exact rfl) | ((with_reducible apply WR.neq); exact rfl; exact rfl; exact rfl) | ((with_reducible apply WR.ld); exact rfl; exact rfl; exact rfl; (first | exact ld2))
  (refine (?_ : W _ (Code.loop _) _ _))
  (refine W.loopM [3, 8] [3, 1014] [29] (fun i : (Nat) => (T.length - i : Nat)) (fun i : (Nat) => (i ≤ T.length ∧ i ≤ k : Prop)) (fun i : (Nat) => [(10, .a (.d (.s (.int .i64 ((i : Nat) + 1 : Int)))))]) (fun i : (Nat) => []) 0 (⟨by omega, by omega⟩) ⟨rfl, trivial⟩ trivial ⟨np, trivial⟩ ?_)
  rintro i σ hP hN; dsimp only [setL, putL] at hP ⊢; obtain ⟨n29, hN⟩ := hN
  obtain ⟨hi, hik⟩ := hP
  by_cases hil : i < T.length
  · repeat' first | ((with_reducible apply WR.c_o (f := 40) (fn := Code.f40)); exact rfl; exact rfl; exact rfl; (exact rfl); (focus ((repeat' first | exact args_nil | apply args_d | exact toD_d rfl | exact toD_ptr rfl rfl | exact toD_slC2 rfl rfl (by omega) | exact all_nil | apply all_cons | exact rfl); done)); exact hm (i + 1) (by omega); (first | exact rfl | assumption)) | ((with_reducible apply WR.mv); exact rfl; exact rfl) | ((with_reducible apply WR.nil)) | (with_reducible refine andThen_n ?_) | (with_reducible refine andThen_r ?_) | (with_reducible refine inB_n ?_) | (with_reducible refine inB_r ?_) | (with_reducible refine W.seq ?_) | (with_reducible refine W.region ?_) | (with_reducible refine W.skip ?_) | (with_reducible refine W.ret ?_) | (with_reducible refine W.block ?_) | ((with_reducible apply W.condT); exact rfl) | ((with_reducible apply W.condF); exact rfl) | ((with_reducible apply Done.f); (intro hh hh2; exact (nomatch hh2)); (focus ((repeat' first | exact all_nil | apply all_cons | exact res_tmp rfl | exact rfl); done)); (focus ((repeat' first | exact all_nil | apply all_cons | exact retOf_s rfl | exact rfl); done)); exact rfl; (focus ((repeat' first | exact outs_nil | apply outs_d | exact rfl); done))) | (intro hb; try (exfalso; omega)) | ((with_reducible apply WR.le); exact rfl; exact rfl) | ((with_reducible apply WR.leq); exact rfl; exact rfl; exact rfl) | ((with_reducible apply WR.eql); exact rfl; exact rfl; exact rfl) | ((with_reducible apply WR.ad); exact rfl; exact rfl; exact rfl; (first | exact i64_in _ (by omega) | assumption)) | ((with_reducible apply WR.sb); exact rfl; exact rfl; exact rfl; (first | exact i64_in _ (by omega) | assumption)) | ((with_reducible apply WR.s2); exact rfl; exact rfl; (exact rfl); (exact rfl); exact ⟨by omega, by omega⟩)
    · have hik2 : i = k := by
        by_cases hh : i < k
        · have h1 := hp i hh; omega
        · omega
      subst hik2
      rw [if_pos hil, show (i : Int) + 1 - 1 = i by omega]; rfl
    · have hik2 : i < k := by
        by_cases hh : i = k
        · subst hh; have h1 := hn hil; omega
        · omega
      (refine W.nxt (i + 1) (by first | omega | (dsimp only; omega)) ?_ ⟨rfl, trivial⟩ trivial ⟨rfl, rfl, trivial⟩ ⟨rfl, rfl, trivial⟩ ⟨np, trivial⟩); (try dsimp only)
      omega
  · repeat' first | ((with_reducible apply WR.mv); exact rfl; exact rfl) | ((with_reducible apply WR.nil)) | (with_reducible refine andThen_n ?_) | (with_reducible refine andThen_x ?_) | (with_reducible refine inB_x ?_) | (with_reducible refine W.seq ?_) | (with_reducible refine W.region ?_) | (with_reducible refine W.ret ?_) | (with_reducible refine W.exit ?_) | ((with_reducible apply W.condF); exact rfl) | ((with_reducible apply Done.f); (intro hh hh2; exact (nomatch hh2)); (focus ((repeat' first | exact all_nil | apply all_cons | exact res_tmp rfl); done)); (focus ((repeat' first | exact all_nil | apply all_cons | exact retOf_s rfl); done)); exact rfl; (focus ((repeat' first | exact outs_nil | apply outs_d); done))) | (intro hb; try (exfalso; omega)) | ((with_reducible apply WR.le); exact rfl; exact rfl) | ((with_reducible apply WR.leq); exact rfl; exact rfl; exact rfl)
    rw [if_neg (by omega)]; rfl
theorem filt_len {α : Type} [DecidableEq α] (p : α → Bool) (e : α) : ∀ (A : List α), A.Nodup → (A.filter (fun x => p x && decide (x ≠ e))).length + (if e ∈ A ∧ p e = true then 1 else 0) = (A.filter p).length
  | [], _ => by simp
  | a :: r, hn => by
    obtain ⟨h1, h2⟩ := List.nodup_cons.1 hn
    have ih := filt_len p e r h2
    by_cases hae : a = e
    · subst hae
      rw [if_neg (fun h => h1 h.1)] at ih
      by_cases hp : p a = true
      · simp [hp]; simpa using ih
      · simp [hp]; simpa using ih
    · have hea : ¬ e = a := fun h => hae h.symm
      by_cases hp : p a = true
      · simp only [hp, hae, hea, List.filter_cons, List.mem_cons, false_or, Bool.and_true, ne_eq, not_false_eq_true, decide_true, decide_false, if_true, List.length_cons] at ih ⊢
        omega
      · simp only [hp, hae, hea, List.filter_cons, List.mem_cons, false_or, Bool.false_and, Bool.false_eq_true, if_false, List.length_cons] at ih ⊢
        exact ih
theorem allC_nodup (hw : 0 ≤ w) : (allC w h).Nodup := by
  unfold allC cellsTo List.Nodup
  rw [List.pairwise_map]
  refine List.Pairwise.imp (fun {a b} hab he => hab ?_) List.nodup_range
  rw [Prod.mk.injEq, Int.natCast_inj, Int.natCast_inj] at he
  rw [← Nat.div_add_mod a w.toNat, ← Nat.div_add_mod b w.toNat, he.1, he.2]
theorem allC_has {c : Cel} (hc : Has w h c.1 c.2) : c ∈ allC w h := by
  obtain ⟨x, y⟩ := c
  obtain ⟨h1, h2, h3, h4⟩ := hc
  simp only at h1 h2 h3 h4
  obtain ⟨X, rfl⟩ : ∃ X : Nat, x = X := ⟨x.toNat, by omega⟩
  obtain ⟨Y, rfl⟩ : ∃ Y : Nat, y = Y := ⟨y.toNat, by omega⟩
  obtain ⟨W0, rfl⟩ : ∃ W0 : Nat, w = W0 := ⟨w.toNat, by omega⟩
  obtain ⟨H0, rfl⟩ : ∃ H0 : Nat, h = H0 := ⟨h.toNat, by omega⟩
  unfold allC cellsTo
  rw [List.mem_map]
  have hX : X < W0 := by omega
  have hY : Y + 1 ≤ H0 := by omega
  refine ⟨Y * W0 + X, ?_, ?_⟩
  · rw [List.mem_range, Int.toNat_natCast, Int.toNat_natCast]
    have h5 : (Y + 1) * W0 ≤ H0 * W0 := Nat.mul_le_mul_right _ hY
    rw [Nat.succ_mul] at h5
    rw [Nat.mul_comm W0 H0]
    omega
  · rw [Int.toNat_natCast, Nat.add_comm, Nat.add_mul_mod_self_right, Nat.mod_eq_of_lt hX, Nat.add_mul_div_right _ _ (by omega), Nat.div_eq_of_lt hX, Nat.zero_add]
theorem left_step (T : List Cel) {e : Cel} (hw : 0 ≤ w) (he : Has w h e.1 e.2) : (leftL w h g (T ++ [e])).length + (if Is w h g 0 e.1 e.2 ∧ e ∉ T then 1 else 0) = (leftL w h g T).length := by
  have h1 := filt_len (fun c => decide (Is w h g 0 c.1 c.2 ∧ c ∉ T)) e (allC w h) (allC_nodup hw)
  have h2 : (leftL w h g (T ++ [e])) = (allC w h).filter fun x => decide (Is w h g 0 x.1 x.2 ∧ x ∉ T) && decide (x ≠ e) := by
    unfold leftL those
    apply List.filter_congr
    intro x _
    rw [Bool.eq_iff_iff]
    simp [and_assoc]
  rw [h2]
  unfold leftL those
  rw [← h1]
  refine congrArg (fun z : Nat => ((allC w h).filter fun x => decide (Is w h g 0 x.1 x.2 ∧ x ∉ T) && decide (x ≠ e)).length + z) ?_
  by_cases h3 : Is w h g 0 e.1 e.2 ∧ e ∉ T
  · simp [h3, allC_has he]
  · simp only [h3, decide_false, Bool.false_eq_true, and_false, if_false]
theorem leftN_step (T : List Cel) (hw : 0 ≤ w) {i : Nat} (hi : i < T.length) (he : Has w h (gC T i).1 (gC T i).2) : leftN w h g T (i + 1) + (if Is w h g 0 (gC T i).1 (gC T i).2 ∧ gC T i ∉ T.take i then 1 else 0) = leftN w h g T i := by
  unfold leftN
  rw [← left_step (T.take i) hw he, List.take_add_one, gC_get hi]
  rfl
theorem firstWhole_ok (l : IsLawn w h g cs) (c : Cel) (s : List UInt8) (h0 : goneC w h g c s = 0) (k : Nat) (hk : k ≤ (trk s c s.length).length) (hp : ∀ j, j < k → leftN w h g (trk s c s.length) (j + 1) ≠ 0)
    (hn : k < (trk s c s.length).length → leftN w h g (trk s c s.length) (k + 1) = 0) : Gives G 163 [aa cs, ac c.1 c.2, .d (.s (.str s))] (firstRes (trk s c s.length) k) := by
  have hw := walked_gives l c s
  obtain ⟨ht, hO⟩ := gone_zero h0
  obtain ⟨hs, hH, hl, hlt⟩ := told_ok ht
  have hlen := trk_len s c s.length
  have hth := trk_has hO
  rw [if_pos h0] at hw
  unfold firstRes
  generalize trk s c s.length = T at hw hlen hth hp hn hk ⊢
  have hgr := those_gives l (by omega) (holds_grass l ⟨by omega, by omega⟩) (fun _ _ => trivial)
  have e0 : those w h (fun c => Is w h g 0 c.1 c.2) = leftL w h g (T.take 0) := by
    unfold leftL those
    apply List.filter_congr
    intro x _
    simp
  rw [e0] at hgr
  have hgr' : Gives G 31 [aa cs, .d (.clo 32 [.agg cs] [])] ⟨[.own (leftN w h g T 0) 2 (encC (leftL w h g (T.take 0)))], []⟩ := hgr
  have hcon : ∀ i, i ≤ T.length → ∀ e : Cel, Gives G 83 [asl (T.take i), ac e.1 e.2] (rb (decide (e ∈ T.take i))) := fun i hi e => contains_gives (T.take i) (by rw [List.length_take]; omega) e.1 e.2
  have hgg := fun e : Cel => grass_gives l e.1 e.2 (.inl ⟨by omega, by omega⟩)
  have hst := fun i (hi : i < T.length) => leftN_step (g := g) T (by omega) hi (hth _ (gC_mem hi))
  have hle : ∀ i, leftN w h g T i ≤ 100 := fun i => Nat.le_trans (List.length_filter_le ..) (allC_len ⟨by omega, by omega⟩)
  generalize leftN w h g T = N at hgr' hst hle hp hn
  refine Gives.by rfl rfl (W.seq ?_)
  repeat' first | ((with_reducible apply WR.c_os (f := 81) (fn := Code.f81)); exact rfl; exact rfl; exact rfl; (exact rfl); (focus ((repeat' first | exact args_nil | apply args_d | exact toD_d rfl | (apply toD_clo; exact rfl) | exact all_nil | apply all_cons | exact rfl); done)); exact hw; (exact rfl)) | ((with_reducible apply WR.c_o (f := 31) (fn := Code.f31)); exact rfl; exact rfl; exact rfl; (exact rfl); (focus ((repeat' first | exact args_nil | apply args_d | exact toD_d rfl | (apply toD_clo; exact rfl) | exact all_nil | apply all_cons | exact rfl); done)); exact hgr'; (exact rfl)) | ((with_reducible apply WR.mv); exact rfl; exact rfl) | ((with_reducible apply WR.mvt); exact rfl; exact rfl) | ((with_reducible apply WR.ld); exact rfl; exact rfl; exact rfl; (first | exact ld2 | exact loadC_all (IsLawn.len (by assumption)))) | ((with_reducible apply WR.nil)) | (with_reducible refine andThen_n ?_) | (with_reducible refine W.seq ?_) | (with_reducible refine W.region ?_) | (with_reducible refine W.skip ?_) | (with_reducible refine W.block ?_) | ((with_reducible apply W.condF); exact rfl) | (intro hb; try (exfalso; omega)) | ((with_reducible apply WR.bx); exact rfl; exact rfl; exact (by first | exact IsLawn.len (by assumption) | exact rfl); (exact rfl)) | ((with_reducible apply WR.ex); exact rfl; exact rfl) | ((with_reducible apply WR.le); exact rfl; exact rfl) | ((with_reducible apply WR.neq); exact rfl; exact rfl; exact rfl) | ((with_reducible apply WR.mf); exact rfl; exact rfl)
  (refine (?_ : W _ (Code.loop _) _ _))
  (refine W.loopM [3, 8, 28, 29] [3, 1017] [12] (fun zz : (Nat) × (Int) => match zz with | (i, n) => (T.length - i : Nat)) (fun zz : (Nat) × (Int) => match zz with | (i, n) => (i ≤ T.length ∧ i ≤ k ∧ n = N i : Prop)) (fun zz : (Nat) × (Int) => match zz with | (i, n) => [(10, .a (.d (.s (.int .i64 n)))), (30, .a (.d (.s (.int .i64 (i : Nat)))))]) (fun zz : (Nat) × (Int) => match zz with | (i, n) => []) (0, (N 0 : Int)) (⟨by omega, by omega, rfl⟩) ⟨rfl, rfl, trivial⟩ trivial ⟨np, trivial⟩ ?_)
  rintro ⟨i, n⟩ σ hP hN; dsimp only [setL, putL] at hP ⊢; obtain ⟨n12, hN⟩ := hN
  obtain ⟨hi, hik, hnn⟩ := hP
  by_cases hil : i < T.length
  · have hs1 := hst i hil
    have hl1 := hle i
    have hl2 := hle (i + 1)
    have hz : N (i + 1) = 0 → i = k := fun h1 => by
      by_cases hh : i < k
      · exact absurd h1 (hp i hh)
      · omega
    have hnz : N (i + 1) ≠ 0 → i < k := fun h1 => by
      by_cases hh : i = k
      · subst hh; exact absurd (hn hil) h1
      · omega
    repeat' first | ((with_reducible apply WH.c_p (f := 32) (fn := Code.f32)); exact rfl; exact rfl; exact rfl; (exact rfl); (focus ((repeat' first | exact args_nil | apply args_d | exact toD_d rfl | exact toD_slC2 rfl rfl (by omega) | exact all_nil | apply all_cons | exact rfl); done)); exact hgg (gC T i)) | ((with_reducible apply WH.c_p (f := 83) (fn := Code.f83)); exact rfl; exact rfl; exact rfl; (exact rfl); (focus ((repeat' first | exact args_nil | apply args_d | exact toD_d rfl | exact toD_slC2 rfl rfl (by omega) | exact all_nil | apply all_cons | exact rfl); done)); exact hcon i hi (gC T i)) | ((with_reducible apply WR.mv); exact rfl; exact rfl) | ((with_reducible apply WR.ld); exact rfl; exact rfl; exact rfl; (first | exact ld2 | exact loadC_all (IsLawn.len (by assumption)) | exact ldC (by first | omega))) | ((with_reducible apply WR.nil)) | (with_reducible refine andThen_n ?_) | (with_reducible refine andThen_r ?_) | (with_reducible refine inB_n ?_) | (with_reducible refine inB_r ?_) | (with_reducible refine W.seq ?_) | (with_reducible refine W.region ?_) | (with_reducible refine W.skip ?_) | (with_reducible refine W.ret ?_) | (with_reducible refine W.block ?_) | ((with_reducible apply W.condT); exact rfl) | ((with_reducible apply W.condF); exact rfl) | ((with_reducible apply Done.f); (intro hh hh2; exact (nomatch hh2)); (focus ((repeat' first | exact all_nil | apply all_cons | exact res_tmp rfl | exact rfl); done)); (focus ((repeat' first | exact all_nil | apply all_cons | exact retOf_s rfl | exact rfl); done)); exact rfl; (focus ((repeat' first | exact outs_nil | apply outs_d | exact rfl); done))) | ((with_reducible apply WH.off); exact rfl) | ((with_reducible apply WH.mv); exact rfl; exact rfl; exact rfl) | ((with_reducible apply WH.ld); exact rfl; exact rfl; exact rfl; (first | exact ld2 | exact loadC_all (IsLawn.len (by assumption)) | exact ldC (by first | omega)); exact rfl) | ((with_reducible apply WH.nil)) | (with_reducible refine W.draw ?_) | (intro hb; try (exfalso; omega)) | ((with_reducible apply WR.lss); exact rfl; exact rfl; exact rfl) | ((with_reducible apply WR.eql); exact rfl; exact rfl; exact rfl) | ((with_reducible apply WR.ad); exact rfl; exact rfl; exact rfl; (first | exact i64_in _ (by omega) | assumption)) | ((with_reducible apply WR.sb); exact rfl; exact rfl; exact rfl; (first | exact i64_in _ (by omega) | assumption)) | ((with_reducible apply WR.isn); exact rfl; exact rfl; exact rfl; omega) | ((with_reducible apply WR.al); exact rfl; (first | exact rfl | assumption)) | ((with_reducible apply WR.st); exact rfl; exact rfl; exact rfl; exact st2) | ((with_reducible apply WH.s2x); exact rfl; exact rfl; (exact rfl); (exact rfl); exact ⟨by omega, by omega⟩; exact rfl) | ((with_reducible apply WH.un); exact rfl; exact rfl; exact rfl) | ((with_reducible apply WH.pk); exact rfl; exact rfl; exact rfl)
    all_goals first
      | rw [if_pos ⟨by assumption, by assumption⟩] at hs1
      | rw [if_neg (fun hh => absurd hh.1 (by assumption))] at hs1
      | rw [if_neg (fun hh => hh.2 (by assumption))] at hs1
    all_goals first
      | (obtain rfl : i = k := hz (by omega)
         rw [if_pos hil]; rfl)
      | ((refine W.nxt (i + 1, n - 1) (by first | omega | (dsimp only; omega)) ?_ ⟨rfl, rfl, trivial⟩ trivial ⟨rfl, rfl, rfl, rfl, trivial⟩ ⟨rfl, rfl, trivial⟩ ⟨np, trivial⟩); (try dsimp only)
         exact ⟨by omega, hnz (by omega), by omega⟩)
      | ((refine W.nxt (i + 1, n) (by first | omega | (dsimp only; omega)) ?_ ⟨rfl, rfl, trivial⟩ trivial ⟨rfl, rfl, rfl, rfl, trivial⟩ ⟨rfl, rfl, trivial⟩ ⟨np, trivial⟩); (try dsimp only)
         exact ⟨by omega, hnz (by omega), by omega⟩)
  · repeat' first | ((with_reducible apply WR.mv); exact rfl; exact rfl) | ((with_reducible apply WR.nil)) | (with_reducible refine andThen_n ?_) | (with_reducible refine andThen_x ?_) | (with_reducible refine inB_x ?_) | (with_reducible refine W.seq ?_) | (with_reducible refine W.region ?_) | (with_reducible refine W.ret ?_) | (with_reducible refine W.exit ?_) | ((with_reducible apply W.condF); exact rfl) | ((with_reducible apply Done.f); (intro hh hh2; exact (nomatch hh2)); (focus ((repeat' first | exact all_nil | apply all_cons | exact res_tmp rfl); done)); (focus ((repeat' first | exact all_nil | apply all_cons | exact retOf_s rfl); done)); exact rfl; (focus ((repeat' first | exact outs_nil | apply outs_d); done))) | (intro hb; try (exfalso; omega)) | ((with_reducible apply WR.lss); exact rfl; exact rfl; exact rfl)
    rw [if_neg (by omega)]; rfl
end Go.DM
