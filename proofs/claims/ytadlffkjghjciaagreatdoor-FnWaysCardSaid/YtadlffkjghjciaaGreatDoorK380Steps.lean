/- Steps from a cell: the program's side. -/
import Derived.Test.YtadlffkjghjciaaGreatDoorK380Bfs
set_option linter.unusedSectionVars false
set_option linter.unusedSimpArgs false
set_option linter.unusedVariables false
set_option maxHeartbeats 4000000
namespace Go.DM
variable [Tok]
open Go.IntWalk
variable {w h : Int} {g : Nat → Int} {cs : List S}
def outI (w : Int) (d : Nat → Int) : Nat → Int := fun i => d (10 * (i / w.toNat) + i % w.toNat)
theorem mul_b (hs : 0 ≤ w ∧ w ≤ 10 ∧ 0 ≤ h ∧ h ≤ 10) : 0 ≤ w * h ∧ w * h ≤ 100 := by
  obtain ⟨W, rfl⟩ : ∃ W : Nat, w = W := ⟨w.toNat, by omega⟩
  obtain ⟨H, rfl⟩ : ∃ H : Nat, h = H := ⟨h.toNat, by omega⟩
  have h3 : W * H ≤ 10 * 10 := Nat.mul_le_mul (by omega) (by omega)
  have e : ((W * H : Nat) : Int) = (W : Int) * H := by simp
  omega
theorem idx_b (hs : 0 ≤ w ∧ w ≤ 10 ∧ 0 ≤ h ∧ h ≤ 10) {x y : Int} (hh : Has w h x y) : 0 ≤ y * w + x ∧ y * w + x < w * h := by
  simp only [Has] at hh
  obtain ⟨W, rfl⟩ : ∃ W : Nat, w = W := ⟨w.toNat, by omega⟩
  obtain ⟨H, rfl⟩ : ∃ H : Nat, h = H := ⟨h.toNat, by omega⟩
  obtain ⟨X, rfl⟩ : ∃ X : Nat, x = X := ⟨x.toNat, by omega⟩
  obtain ⟨Y, rfl⟩ : ∃ Y : Nat, y = Y := ⟨y.toNat, by omega⟩
  have h3 : (Y + 1) * W ≤ H * W := Nat.mul_le_mul_right W (by omega)
  have e1 : ((Y * W : Nat) : Int) = (Y : Int) * W := by simp
  have e2 : ((H * W : Nat) : Int) = (W : Int) * H := by simp [Int.mul_comm]
  rw [Nat.succ_mul] at h3
  omega
theorem div_idx {W x y : Nat} (hx : x < W) : (y * W + x) / W = y ∧ (y * W + x) % W = x := by
  refine ⟨?_, ?_⟩
  · rw [Nat.add_comm, Nat.add_mul_div_right _ _ (by omega), Nat.div_eq_of_lt hx, Nat.zero_add]
  · rw [Nat.add_comm, Nat.add_mul_mod_self_right, Nat.mod_eq_of_lt hx]
theorem idx_nat {x y : Int} (hh : Has w h x y) : (y * w + x).toNat = y.toNat * w.toNat + x.toNat := by
  simp only [Has] at hh
  obtain ⟨W, rfl⟩ : ∃ W : Nat, w = W := ⟨w.toNat, by omega⟩
  obtain ⟨X, rfl⟩ : ∃ X : Nat, x = X := ⟨x.toNat, by omega⟩
  obtain ⟨Y, rfl⟩ : ∃ Y : Nat, y = Y := ⟨y.toNat, by omega⟩
  have e1 : ((Y * W : Nat) : Int) = (Y : Int) * W := by simp
  simp only [Int.toNat_natCast]
  omega
theorem outI_get {d : Nat → Int} {x y : Int} (hh : Has w h x y) : outI w d (y * w + x).toNat = d (10 * y.toNat + x.toNat) := by
  rw [idx_nat hh]
  have := div_idx (W := w.toNat) (x := x.toNat) (y := y.toNat) (by simp only [Has] at hh; omega)
  simp only [outI, this.1, this.2]
theorem outI_set {d : Nat → Int} {c : Cel} {v : Int} (hs : w ≤ 10) (hh : Has w h c.1 c.2) : gset (outI w d) (c.2 * w + c.1).toNat v = outI w (gset d (ix c) v) := by
  funext i
  rw [idx_nat hh]
  have hx : c.1.toNat < w.toNat := by simp only [Has] at hh; omega
  have hd := div_idx (y := c.2.toNat) hx
  have hm := Nat.mod_lt i (show 0 < w.toNat by omega)
  have hdm := Nat.div_add_mod i w.toNat
  simp only [gset, outI, ix]
  by_cases e : i = c.2.toNat * w.toNat + c.1.toNat
  · rw [if_pos e, if_pos (by rw [e, hd.1, hd.2])]
  · rw [if_neg e, if_neg]
    intro e2
    have h1 : i / w.toNat = c.2.toNat := by omega
    have h2 : i % w.toNat = c.1.toNat := by omega
    exact e (by rw [← hdm, h1, h2, Nat.mul_comm])
theorem repeat_gives' (m : Int) (hn : 1 ≤ m ∧ m ≤ 1000) : Gives G 88 [.d (.sl 1 1 [.int .i64 (-1)]), ai .i64 m] ⟨[.own m.toNat 1 (rowI .i64 m.toNat fun _ => -1)], []⟩ := by
  have := repeat_gives m.toNat (by omega)
  rwa [show ((m.toNat : Nat) : Int) = m by omega] at this
theorem mul_1 (hs : 1 ≤ w ∧ 1 ≤ h) : 1 ≤ w * h := by
  obtain ⟨W, rfl⟩ : ∃ W : Nat, w = W := ⟨w.toNat, by omega⟩
  obtain ⟨H, rfl⟩ : ∃ H : Nat, h = H := ⟨h.toNat, by omega⟩
  have h3 : 1 * 1 ≤ W * H := Nat.mul_le_mul (by omega) (by omega)
  have e : ((W * H : Nat) : Int) = (W : Int) * H := by simp
  omega
def okP (w h : Int) (P : Cel → Prop) (c : Cel) : Prop := Has w h c.1 c.2 ∧ P c
instance (w h : Int) (P : Cel → Prop) [DecidablePred P] : DecidablePred (okP w h P) := fun c => inferInstanceAs (Decidable (_ ∧ _))
theorem drop_gC {l : List Cel} {k : Nat} (hk : k < l.length) : l.drop k = gC l k :: l.drop (k + 1) := by
  have h1 := gC_get hk
  obtain ⟨h2, h3⟩ := List.getElem?_eq_some_iff.1 h1
  rw [List.drop_eq_getElem_cons h2, h3]
theorem steps_gives (l : IsLawn w h g cs) (hs : 1 ≤ w ∧ w ≤ 10 ∧ 1 ≤ h ∧ h ≤ 10) {z : D} {P : Cel → Prop} [DecidablePred P] {dom : Cel → Prop} (hz : HoldsC G z P dom) (hd : ∀ c, Has w h c.1 c.2 → dom c) (x y : Int) (hf : Has w h x y) :
    Gives G 46 [aa cs, ac x y, .d z] ⟨[.own (w * h).toNat 1 (rowI .i64 (w * h).toNat (outI w (far (okP w h P) (x, y))))], []⟩ := by
  have hb0 : 0 ≤ x ∧ x < 10 ∧ 0 ≤ y ∧ y < 10 := by simp only [Has] at hf; omega
  have hwh := mul_b (w := w) (h := h) (by omega)
  have hwh1 := mul_1 (w := w) (h := h) (by omega)
  have hwr : IntKind.i64.wrap (w * h) = w * h := i64_in _ (by omega)
  have hix := idx_b (w := w) (h := h) (by omega) hf
  refine Gives.by rfl rfl (W.seq ?_)
  repeat' first | ((with_reducible apply WR.c_o (f := 88) (fn := Code.f88)); exact rfl; exact rfl; exact rfl; (exact rfl); (focus ((repeat' first | exact args_nil | apply args_d | exact toD_d rfl | exact toD_slX rfl rfl (by first | exact IsLawn.len (by assumption) | exact rfl) | exact rfl); done)); exact repeat_gives' _ (by omega); (exact rfl)) | ((with_reducible apply WR.c_s (f := 48) (fn := Code.f48)); exact rfl; exact rfl; exact rfl; (exact rfl); (focus ((repeat' first | exact args_nil | apply args_d | exact toD_d rfl | exact toD_slX rfl rfl (by first | exact IsLawn.len (by assumption) | exact rfl) | exact rfl); done)); exact index_gives' (by assumption) _ _ (by omega) (by omega)) | ((with_reducible apply WR.mv); exact rfl; exact rfl) | ((with_reducible apply WR.ld); exact rfl; exact rfl; exact rfl; (first | exact ld2 | exact lawn_w (by assumption) | exact lawn_h (by assumption) | exact loadC_all (IsLawn.len (by assumption)))) | ((with_reducible apply WR.is); exact rfl; exact rfl; exact rfl; omega) | ((with_reducible apply WR.bs1); exact rfl; exact rfl; (exact rfl)) | ((with_reducible apply WR.bs); exact rfl; exact rfl; (exact rfl)) | ((with_reducible apply WR.nil)) | (with_reducible refine andThen_n ?_) | (with_reducible refine W.seq ?_) | (with_reducible refine W.region ?_) | (with_reducible refine W.block ?_) | ((with_reducible apply WR.cv); exact rfl; exact rfl; (first | exact i64_in _ (by omega))) | ((with_reducible apply WR.bx); exact rfl; exact rfl; exact (by first | exact IsLawn.len (by assumption) | exact rfl); (exact rfl)) | ((with_reducible apply WR.fa); exact rfl; exact rfl) | ((with_reducible apply WR.st); exact rfl; exact rfl; exact rfl; exact stR (by omega)) | ((with_reducible apply WR.ml); exact rfl; exact rfl; exact rfl; (first | exact i64_in _ (by omega)))
  obtain ⟨hB, hu⟩ := BInv.first (c := (x, y)) ⟨by omega, by omega⟩ hf
  have hres : far (okP w h P) (x, y) = bfs (okP w h P) 100 (gset (fun _ => -1) (ix (x, y)) 0, [(x, y)].drop 0) := rfl
  have hst0 : gset (fun _ => (-1 : Int)) (y * w + x).toNat 0 = outI w (gset (fun _ => -1) (ix (x, y)) 0) := outI_set (d := fun _ => -1) (c := (x, y)) (by omega) hf
  rw [hst0]
  generalize far (okP w h P) (x, y) = R at hres ⊢
  generalize gset (fun _ => -1) (ix (x, y)) 0 = d0 at hB hu hres ⊢
  clear hst0 hix
  (refine (?_ : W _ (Code.loop _) _ _))
  (refine W.loopM [2, 3, 7] [3] [10, 35, 47, 74, 75, 1047, 2047, 3047, 4047] (fun zz : (List Cel) × (Nat) × (Nat) × (Nat) × (Nat → Int) × (Nat) => match zz with | (qu, k, off, m, d, n) => (n : Nat)) (fun zz : (List Cel) × (Nat) × (Nat) × (Nat) × (Nat → Int) × (Nat) => match zz with | (qu, k, off, m, d, n) => (off = k * 2 ∧ k ≤ qu.length ∧ m = qu.length - k ∧ R = bfs (okP w h P) n (d, qu.drop k) ∧ unk d + m ≤ n ∧ BInv w h d (qu.drop k) ∧ qu.length ≤ 100 : Prop)) (fun zz : (List Cel) × (Nat) × (Nat) × (Nat) × (Nat → Int) × (Nat) => match zz with | (qu, k, off, m, d, n) => [(8, .a (.sl 26 off m 2))]) (fun zz : (List Cel) × (Nat) × (Nat) × (Nat) × (Nat → Int) × (Nat) => match zz with | (qu, k, off, m, d, n) => [(26, .flat false (encC qu)), (19, .flat false (rowI .i64 (w * h).toNat (outI w d)))]) ([(x, y)], 0, 0, 1, d0, 100) (⟨rfl, by omega, rfl, hres, by omega, hB, by simp⟩) ⟨rfl, trivial⟩ ⟨rfl, rfl, trivial⟩ ⟨np, np, np, np, np, np, np, np, np, trivial⟩ ?_)
  rintro ⟨qu, k, off, m, d, n⟩ σ hP hN; dsimp only [setL, putL] at hP ⊢; obtain ⟨n10, hN⟩ := hN; obtain ⟨n35, hN⟩ := hN; obtain ⟨n47, hN⟩ := hN; obtain ⟨n74, hN⟩ := hN; obtain ⟨n75, hN⟩ := hN; obtain ⟨n1047, hN⟩ := hN; obtain ⟨n2047, hN⟩ := hN; obtain ⟨n3047, hN⟩ := hN; obtain ⟨n4047, hN⟩ := hN
  obtain ⟨hoff, hk, hm, hR, hn, hI, hql⟩ := hP
  by_cases hm0 : m = 0
  · repeat' first | ((with_reducible apply WR.mv); exact rfl; exact rfl) | ((with_reducible apply WR.nil)) | (with_reducible refine andThen_n ?_) | (with_reducible refine andThen_x ?_) | (with_reducible refine inB_x ?_) | (with_reducible refine W.seq ?_) | (with_reducible refine W.region ?_) | (with_reducible refine W.ret ?_) | (with_reducible refine W.exit ?_) | ((with_reducible apply W.condF); exact rfl) | ((with_reducible apply Done.f); (intro hh hh2; exact (nomatch hh2)); (focus ((repeat' first | exact all_nil | apply all_cons | exact res_tmp rfl); done)); (focus ((repeat' first | exact all_nil | apply all_cons | exact retOf_o rfl rfl (by first | exact rowI_len.trans (Nat.mul_one _).symm)); done)); exact rfl; (focus ((repeat' first | exact outs_nil | apply outs_d); done))) | (intro hb; try (exfalso; omega)) | ((with_reducible apply WR.le); exact rfl; exact rfl) | ((with_reducible apply WR.gtr); exact rfl; exact rfl; exact rfl)
    have : qu.drop k = [] := List.drop_eq_nil_of_le (by omega)
    rw [hR, this, bfs_end]; rfl
  · have hk2 : k < qu.length := by omega
    have hc := hI.q (gC qu k) (by rw [show qu.drop k = gC qu k :: qu.drop (k + 1) from drop_gC hk2]; exact List.mem_cons_self ..)
    have hcH := hc.1
    have hld : loadC 2 true (encC qu) (off + Int.toNat 0 * 2) = some (.a (.d (.agg [.int .i8 (gC qu k).1, .int .i8 (gC qu k).2]))) := by
      rw [hoff]; exact ldCd hk2
    obtain ⟨n', rfl⟩ : ∃ n', n = n' + 1 := ⟨n - 1, by omega⟩
    rw [bfs_step hk2] at hR
    repeat' first | ((with_reducible apply WR.c_o (f := 89) (fn := Code.f89)); exact rfl; exact rfl; exact rfl; (exact rfl); (focus ((repeat' first | exact args_nil | apply args_d | exact toD_d rfl | exact rfl); done)); exact beside_gives _ _ (by omega); (first | exact rfl | assumption)) | ((with_reducible apply WR.mv); exact rfl; exact rfl) | ((with_reducible apply WR.ld); exact rfl; exact rfl; exact rfl; (first | exact ldAt (by assumption))) | ((with_reducible apply WR.is); exact rfl; exact rfl; exact rfl; omega) | ((with_reducible apply WR.nil)) | (with_reducible refine andThen_n ?_) | (with_reducible refine W.seq ?_) | (with_reducible refine W.region ?_) | (with_reducible refine W.skip ?_) | (with_reducible refine W.block ?_) | ((with_reducible apply W.condT); exact rfl) | (intro hb; try (exfalso; omega)) | ((with_reducible apply WR.le); exact rfl; exact rfl) | ((with_reducible apply WR.gtr); exact rfl; exact rfl; exact rfl)
    (refine (?_ : W _ (Code.loop _) _ _))
    (refine W.loopM [2, 3, 7, 35, 36] [3] [10, 35, 47, 74, 75, 1047, 2047, 3047, 4047] (fun zz : (Nat) × (List Cel) × (Nat) × (Nat) × (Nat) × (Nat → Int) => match zz with | (j, qv, k', off', m', f) => (4 - j : Nat)) (fun zz : (Nat) × (List Cel) × (Nat) × (Nat) × (Nat) × (Nat → Int) => match zz with | (j, qv, k', off', m', f) => (j ≤ 4 ∧ off' = k' * 2 ∧ k' < qv.length ∧ m' = qv.length - k' ∧ gC qv k' = gC qu k ∧ (f, qv.drop (k' + 1)) = ((Near (gC qu k).1 (gC qu k).2).take j).foldl (visit (okP w h P) (gC qu k)) (d, qu.drop (k + 1)) ∧ BInv w h f (qv.drop k') ∧ unk f + m' = unk d + m ∧ qv.length ≤ 100 : Prop)) (fun zz : (Nat) × (List Cel) × (Nat) × (Nat) × (Nat) × (Nat → Int) => match zz with | (j, qv, k', off', m', f) => [(37, .a (.d (.s (.int .i64 (j : Nat))))), (8, .a (.sl 26 off' m' 2))]) (fun zz : (Nat) × (List Cel) × (Nat) × (Nat) × (Nat) × (Nat → Int) => match zz with | (j, qv, k', off', m', f) => [(26, .flat false (encC qv)), (19, .flat false (rowI .i64 (w * h).toNat (outI w f))), (35, .flat false (encC (Near (gC qu k).1 (gC qu k).2)))]) (0, qu, k, off, m, d) (⟨by omega, hoff, hk2, hm, rfl, rfl, hI, rfl, hql⟩) ⟨rfl, rfl, trivial⟩ ⟨rfl, rfl, rfl, trivial⟩ ⟨np, np, np, np, np, np, np, np, np, trivial⟩ ?_)
    rintro ⟨j, qv, k', off', m', f⟩ σ hP hN; dsimp only [setL, putL] at hP ⊢; obtain ⟨n10, hN⟩ := hN; obtain ⟨n35, hN⟩ := hN; obtain ⟨n47, hN⟩ := hN; obtain ⟨n74, hN⟩ := hN; obtain ⟨n75, hN⟩ := hN; obtain ⟨n1047, hN⟩ := hN; obtain ⟨n2047, hN⟩ := hN; obtain ⟨n3047, hN⟩ := hN; obtain ⟨n4047, hN⟩ := hN
    obtain ⟨hj, hoff', hkv, hm', hgc, hfold, hJ, hcnt, hvl⟩ := hP
    by_cases hj4 : j < 4
    · have hqv := hJ.q (gC qv k') (by rw [show qv.drop k' = gC qv k' :: qv.drop (k' + 1) from drop_gC hkv]; exact List.mem_cons_self ..)
      have hld' : loadC 2 true (encC qv) (off' + Int.toNat 0 * 2) = some (.a (.d (.agg [.int .i8 (gC qv k').1, .int .i8 (gC qv k').2]))) := by
        rw [hoff']; exact ldCd hkv
      have hlen4 : (Near (gC qu k).1 (gC qu k).2).length = 4 := rfl
      have hnb := Near_b (gC_mem (l := Near (gC qu k).1 (gC qu k).2) (k := j) (by omega))
      have hst := fold_snoc (f := visit (okP w h P) (gC qu k)) (d, qu.drop (k + 1)) (gC_get (l := Near (gC qu k).1 (gC qu k).2) (k := j) (by omega))
      rw [← hfold] at hst
      have hixc := idx_b (w := w) (h := h) (by omega) hqv.1
      have hgo := outI_get (d := f) hqv.1
      have hlo : -1 ≤ f (10 * (gC qv k').2.toNat + (gC qv k').1.toNat) := hJ.lo _
      have hhi : f (10 * (gC qv k').2.toNat + (gC qv k').1.toNat) + unk f ≤ 100 := hJ.hi _
      repeat' first | ((with_reducible apply WR.c_p (f := 62) (fn := Code.f62)); exact rfl; exact rfl; exact rfl; (exact rfl); (focus ((repeat' first | exact args_nil | apply args_d | exact toD_d rfl | exact rfl); done)); exact has_gives (by assumption) _ _) | ((with_reducible apply WR.mv); exact rfl; exact rfl) | ((with_reducible apply WR.ld); exact rfl; exact rfl; exact rfl; (first | exact ld2 | exact loadC_all (IsLawn.len (by assumption)) | exact ldC (by first | omega))) | ((with_reducible apply WR.off); exact rfl) | ((with_reducible apply WR.isn); exact rfl; exact rfl; exact rfl; omega) | ((with_reducible apply WR.nil)) | (with_reducible refine andThen_n ?_) | (with_reducible refine inB_n ?_) | (with_reducible refine W.seq ?_) | (with_reducible refine W.region ?_) | (with_reducible refine W.skip ?_) | (with_reducible refine W.block ?_) | ((with_reducible apply W.condT); exact rfl) | ((with_reducible apply W.condF); exact rfl) | (intro hb; try (exfalso; omega)) | ((with_reducible apply WR.lss); exact rfl; exact rfl; exact rfl) | ((with_reducible apply WR.pk); exact rfl; exact rfl) | ((with_reducible apply WR.st); exact rfl; exact rfl; exact rfl; exact st2) | ((with_reducible apply WR.ad); exact rfl; exact rfl; exact rfl; (first | exact i64_in _ (by omega) | assumption)) | ((with_reducible apply WR.al); exact rfl; (first | exact rfl | assumption))
      · have hH : Has w h (gC (Near (gC qu k).1 (gC qu k).2) j).1 (gC (Near (gC qu k).1 (gC qu k).2) j).2 := by assumption
        have hixe := idx_b (w := w) (h := h) (by omega) hH
        have hge := outI_get (d := f) hH
        repeat' first | ((with_reducible apply WR.vh hz); exact rfl; exact rfl; exact rfl; exact hd _ hH) | ((with_reducible apply WR.c_s (f := 48) (fn := Code.f48)); exact rfl; exact rfl; exact rfl; (exact rfl); (focus ((repeat' first | exact args_nil | apply args_d | exact toD_d rfl | exact rfl); done)); exact index_gives' (by assumption) _ _ (by omega) (by omega)) | ((with_reducible apply WH.c_s (f := 48) (fn := Code.f48)); exact rfl; exact rfl; exact rfl; (exact rfl); (focus ((repeat' first | exact args_nil | apply args_d | exact toD_d rfl | exact rfl); done)); exact index_gives' (by assumption) _ _ (by omega) (by omega); exact rfl) | ((with_reducible apply WR.mv); exact rfl; exact rfl) | ((with_reducible apply WR.ld); exact rfl; exact rfl; exact rfl; (first | exact ld2 | exact loadC_all (IsLawn.len (by assumption)) | exact ldR (by omega) | exact ldAt (by assumption))) | ((with_reducible apply WR.off); exact rfl) | ((with_reducible apply WH.ld); exact rfl; exact rfl; exact rfl; (first | exact ld2 | exact loadC_all (IsLawn.len (by assumption)) | exact ldR (by omega) | exact ldAt (by assumption)); exact rfl) | ((with_reducible apply WR.is); exact rfl; exact rfl; exact rfl; omega) | ((with_reducible apply WR.bs1); exact rfl; exact rfl; (first | exact rfl | assumption | (focus ((repeat' first | exact rfl | assumption | (with_reducible apply noPar_set) | ((with_reducible apply noPar_puto); exact rfl) | (with_reducible apply noPar_kill)); done)))) | ((with_reducible apply WR.nil)) | (with_reducible refine andThen_n ?_) | (with_reducible refine inB_n ?_) | (with_reducible refine W.seq ?_) | (with_reducible refine W.region ?_) | (with_reducible refine W.skip ?_) | ((with_reducible apply W.condT); exact rfl) | ((with_reducible apply W.condF); exact rfl) | ((with_reducible apply WH.mv); exact rfl; exact rfl; exact rfl) | ((with_reducible apply WH.is); exact rfl; exact rfl; exact rfl; omega; exact rfl) | ((with_reducible apply WH.nil)) | (with_reducible refine W.draw ?_) | (intro hb; try (exfalso; omega)) | ((with_reducible apply WR.lss); exact rfl; exact rfl; exact rfl) | ((with_reducible apply WR.pk); exact rfl; exact rfl) | ((with_reducible apply WR.ad); exact rfl; exact rfl; exact rfl; (first | exact i64_in _ (by omega) | assumption)) | ((with_reducible apply WR.apO); exact rfl; exact rfl; exact rfl; exact rfl; assumption; omega; omega; omega) | ((with_reducible apply WH.ad); exact rfl; exact rfl; exact rfl; (first | exact i64_in _ (by omega) | assumption)) | ((with_reducible apply WH.st); exact rfl; exact rfl; exact rfl; exact stR (by omega); exact rfl; exact rfl)
        · have hneg : f (ix (gC (Near (gC qu k).1 (gC qu k).2) j)) < 0 := by simp only [ix]; omega
          have hmem : gC qv k' ∈ qv.drop k' := by rw [drop_gC hkv]; exact List.mem_cons_self ..
          have hp := hJ.push ⟨by omega, by omega⟩ hmem hH hneg
          have hpl := hp.1.len
          replace hst := hst.trans (visit_yes ⟨hH, by assumption⟩ hneg)
          rw [hgo, outI_set (c := gC (Near (gC qu k).1 (gC qu k).2) j) (by omega) hH]
          (refine W.nxt (j + 1, qv.drop k' ++ [gC (Near (gC qu k).1 (gC qu k).2) j], 0, 0, (qv.drop k' ++ [gC (Near (gC qu k).1 (gC qu k).2) j]).length, gset f (ix (gC (Near (gC qu k).1 (gC qu k).2) j)) (f (ix (gC qv k')) + 1)) (by first | omega | (dsimp only; omega)) ?_ ⟨rfl, rfl, trivial⟩ ⟨rfl, rfl, rfl, trivial⟩ ⟨rfl, rfl, rfl, rfl, rfl, trivial⟩ ⟨rfl, trivial⟩ ⟨np, np, np, np, np, np, np, np, np, trivial⟩); (try dsimp only)
          have hl1 : (qv.drop k' ++ [gC (Near (gC qu k).1 (gC qu k).2) j]).length = m' + 1 := by rw [List.length_append, List.length_drop, List.length_singleton]; omega
          refine ⟨by omega, rfl, by omega, rfl, ?_, ?_, hp.1, by omega, by omega⟩
          · rw [drop_gC hkv, ← hgc]; rfl
          · rw [hst, hgc, drop_gC hkv]; rfl
        · replace hst := hst.trans (visit_no (.inr (by simp only [ix]; omega)))
          (refine W.nxt (j + 1, qv, k', off', m', f) (by first | omega | (dsimp only; omega)) ?_ ⟨rfl, rfl, trivial⟩ ⟨rfl, rfl, rfl, trivial⟩ ⟨rfl, rfl, rfl, rfl, rfl, trivial⟩ ⟨rfl, trivial⟩ ⟨np, np, np, np, np, np, np, np, np, trivial⟩); (try dsimp only)
          exact ⟨by omega, hoff', hkv, hm', hgc, hst.symm, hJ, hcnt, hvl⟩
        · replace hst := hst.trans (visit_no (.inl (fun hh => absurd hh.2 (by assumption))))
          (refine W.nxt (j + 1, qv, k', off', m', f) (by first | omega | (dsimp only; omega)) ?_ ⟨rfl, rfl, trivial⟩ ⟨rfl, rfl, rfl, trivial⟩ ⟨rfl, rfl, rfl, rfl, rfl, trivial⟩ ⟨rfl, trivial⟩ ⟨np, np, np, np, np, np, np, np, np, trivial⟩); (try dsimp only)
          exact ⟨by omega, hoff', hkv, hm', hgc, hst.symm, hJ, hcnt, hvl⟩
      · replace hst := hst.trans (visit_no (.inl (fun hh => absurd hh.1 (by assumption))))
        (refine W.nxt (j + 1, qv, k', off', m', f) (by first | omega | (dsimp only; omega)) ?_ ⟨rfl, rfl, trivial⟩ ⟨rfl, rfl, rfl, trivial⟩ ⟨rfl, rfl, rfl, rfl, rfl, trivial⟩ ⟨rfl, trivial⟩ ⟨np, np, np, np, np, np, np, np, np, trivial⟩); (try dsimp only)
        exact ⟨by omega, hoff', hkv, hm', hgc, hst.symm, hJ, hcnt, hvl⟩
    · repeat' first | ((with_reducible apply WR.mv); exact rfl; exact rfl) | ((with_reducible apply WR.nil)) | (with_reducible refine andThen_n ?_) | (with_reducible refine andThen_x ?_) | (with_reducible refine inB_n ?_) | (with_reducible refine inB_x ?_) | (with_reducible refine W.seq ?_) | (with_reducible refine W.region ?_) | (with_reducible refine W.exit ?_) | ((with_reducible apply W.condF); exact rfl) | (intro hb; try (exfalso; omega)) | ((with_reducible apply WR.lss); exact rfl; exact rfl; exact rfl) | ((with_reducible apply WR.s2); exact rfl; exact rfl; (exact rfl); (exact rfl); exact ⟨by omega, by omega⟩)
      (refine W.nxt (qv, k' + 1, off' + 1 * 2, m' - 1, f, n') (by first | omega | (dsimp only; omega)) ?_ ⟨rfl, trivial⟩ ⟨rfl, rfl, trivial⟩ ⟨rfl, rfl, rfl, trivial⟩ ⟨rfl, trivial⟩ ⟨np, np, np, np, np, np, np, np, np, trivial⟩); (try dsimp only)
      have hj4' : j = 4 := by omega
      rw [hj4', show ((Near (gC qu k).1 (gC qu k).2).take 4) = Near (gC qu k).1 (gC qu k).2 from rfl] at hfold
      refine ⟨by omega, by omega, by omega, by rw [hR, ← hfold], by omega, ?_, hvl⟩
      have := hJ
      rw [drop_gC hkv] at this
      exact ⟨this.lo, this.hi, fun c hc => this.q c (List.mem_cons_of_mem _ hc), by have := this.len; rw [List.length_cons] at this; omega⟩
end Go.DM
