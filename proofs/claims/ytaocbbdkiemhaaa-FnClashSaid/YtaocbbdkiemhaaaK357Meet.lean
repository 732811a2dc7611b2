/- Where two robots meet: both sides, the statement. -/
import Derived.Test.YtaocbbdkiemhaaaK357Trap
set_option linter.unusedSimpArgs false
set_option linter.unusedVariables false
set_option maxHeartbeats 4000000
namespace Go.DM
set_option linter.unusedSectionVars false
variable [Tok]
open Go.IntWalk
variable {w h : Int} {g : Nat → Int} {cs : List S}

theorem ix_inj (hs : w ≤ 10 ∧ h ≤ 10) {a b : Cel} (ha : Has w h a.1 a.2) (hb : Has w h b.1 b.2) (e : ix a = ix b) : a = b := by
  simp only [Has] at ha hb
  simp only [ix] at e
  exact Prod.ext (by omega) (by omega)
/-- Where steps come, they may go. -/
theorem bfs_ok {ok : Cel → Prop} [DecidablePred ok] (hs : w ≤ 10 ∧ h ≤ 10) (hok : ∀ e, ok e → Has w h e.1 e.2) {R : Cel → Prop} (hR : ∀ e, ok e → R e) : ∀ (n : Nat) {s : (Nat → Int) × List Cel}, (∀ e, Has w h e.1 e.2 → 0 ≤ s.1 (ix e) → R e) → ∀ e, Has w h e.1 e.2 → 0 ≤ bfs ok n s (ix e) → R e
  | 0, s, b, e, he, h0 => b e he h0
  | n + 1, (d, []), b, e, he, h0 => b e he h0
  | n + 1, (d, c :: r), b, e, he, h0 => by
    have key : ∀ (L : List Cel) (s : (Nat → Int) × List Cel), (∀ e, Has w h e.1 e.2 → 0 ≤ s.1 (ix e) → R e) → ∀ e, Has w h e.1 e.2 → 0 ≤ (L.foldl (visit ok c) s).1 (ix e) → R e := by
      intro L
      induction L with
      | nil => intro s b; exact b
      | cons a L ih =>
        intro s b
        refine ih _ ?_
        intro e he
        unfold visit
        split
        · rename_i hh
          intro h1
          simp only [gset] at h1
          split at h1
          · rename_i h2; rw [ix_inj hs he (hok a hh.1) h2]; exact hR a hh.1
          · exact b e he h1
        · exact b e he
    exact bfs_ok hs hok hR n (key (Near c.1 c.2) (d, r) b) e he h0
theorem steps_open (hs : w ≤ 10 ∧ h ≤ 10) {c : Cel} (hc : Opn w h g c.1 c.2) {e : Cel} (he : Has w h e.1 e.2) (h0 : 0 ≤ steps w h g c (ix e)) : Opn w h g e.1 e.2 := by
  refine bfs_ok (R := fun e => Opn w h g e.1 e.2) hs (fun e he => he.1) (fun e he => ⟨he.1, he.2.imp id fun h => h.2⟩) 100 ?_ e he h0
  intro a ha h1
  simp only [gset] at h1
  split at h1
  · rename_i h2; rw [ix_inj hs ha hc.1 h2]; exact hc
  · omega
def meet (X Y : Nat → Int) (s : Cel × Int) (c : Cel) : Cel × Int := if (0 ≤ X (ix c) ∧ 0 ≤ Y (ix c)) ∧ (s.2 < 0 ∨ max (X (ix c)) (Y (ix c)) < s.2) then (c, max (X (ix c)) (Y (ix c))) else s
theorem meet_yes {X Y : Nat → Int} {s : Cel × Int} {c : Cel} (hh : (0 ≤ X (ix c) ∧ 0 ≤ Y (ix c)) ∧ (s.2 < 0 ∨ max (X (ix c)) (Y (ix c)) < s.2)) : meet X Y s c = (c, max (X (ix c)) (Y (ix c))) := by unfold meet; rw [if_pos hh]
theorem meet_no {X Y : Nat → Int} {s : Cel × Int} {c : Cel} (hh : ¬ ((0 ≤ X (ix c) ∧ 0 ≤ Y (ix c)) ∧ (s.2 < 0 ∨ max (X (ix c)) (Y (ix c)) < s.2))) : meet X Y s c = s := by unfold meet; rw [if_neg hh]
def meetF (w h : Int) (g : Nat → Int) (a b : Cel) : Cel × Int := (allC w h).foldl (meet (steps w h g a) (steps w h g b)) ((0, 0), -1)
theorem meetF_open (hs : w ≤ 10 ∧ h ≤ 10) {a b : Cel} (ha : Opn w h g a.1 a.2) : (those w h fun c => Opn w h g c.1 c.2).foldl (meet (steps w h g a) (steps w h g b)) ((0, 0), -1) = meetF w h g a b := by
  unfold those meetF
  have key : ∀ (L : List Cel) (s : Cel × Int), (∀ e ∈ L, Has w h e.1 e.2) → (L.filter fun c => decide (Opn w h g c.1 c.2)).foldl (meet (steps w h g a) (steps w h g b)) s = L.foldl (meet (steps w h g a) (steps w h g b)) s := by
    intro L
    induction L with
    | nil => intro s _; rfl
    | cons e L ih =>
      intro s hL
      rw [List.filter_cons, List.foldl_cons]
      split
      · rw [List.foldl_cons]; exact ih _ fun e he => hL e (List.mem_cons_of_mem _ he)
      · rename_i hno
        rw [meet_no (s := s) (c := e) fun hh => hno (by simpa using steps_open hs ha (hL e (List.mem_cons_self ..)) hh.1.1)]
        exact ih _ fun e he => hL e (List.mem_cons_of_mem _ he)
  exact key _ _ fun e he => allC_mem he
def open2 (w h : Int) (g : Nat → Int) (a b : Cel) : Int := belowCode (LawnOk w h g) (Has w h a.1 a.2 ∧ Has w h b.1 b.2) (Opn w h g a.1 a.2 ∧ Opn w h g b.1 b.2)
theorem open2_impl (a b : Cel) : belowCode (LawnOk w h g) (∀ e ∈ ([a, b] : List Cel), Has w h e.1 e.2) (∀ e ∈ ([a, b] : List Cel), Opn w h g e.1 e.2) = open2 w h g a b := belowCode_congr Iff.rfl (by simp) (by simp)
theorem open2_spec (a b : Cel) : belowCode (LawnOk w h g) (true = true ∧ ∀ e ∈ ([a, b] : List Cel), Has w h e.1 e.2) (∀ e ∈ ([a, b] : List Cel), Opn w h g e.1 e.2) = open2 w h g a b := belowCode_congr Iff.rfl (by simp) (by simp)
theorem open2_ok {a b : Cel} (h0 : open2 w h g a b = 0) : (1 ≤ w ∧ w ≤ 10 ∧ 1 ≤ h ∧ h ≤ 10) ∧ Opn w h g a.1 a.2 ∧ Opn w h g b.1 b.2 := by
  obtain ⟨h1, h2, h3⟩ := belowCode_zero.1 h0
  exact ⟨⟨h1.1.1, h1.1.2, h1.2.1.1, h1.2.1.2⟩, h3⟩
def meetRes (w h : Int) (g : Nat → Int) (a b : Cel) : Res :=
  if open2 w h g a b = 0 then (if (meetF w h g a b).2 < 0 then ⟨[.agg [.int .i8 0, .int .i8 0], .s (.int .i64 0), .s (.int .i64 6)], []⟩ else ⟨[.agg [.int .i8 (meetF w h g a b).1.1, .int .i8 (meetF w h g a b).1.2], .s (.int .i64 (meetF w h g a b).2), .s (.int .i64 0)], []⟩)
  else ⟨[.agg [.int .i8 0, .int .i8 0], .s (.int .i64 0), .s (.int .i64 (open2 w h g a b))], []⟩
theorem meetCell_gives (l : IsLawn w h g cs) (a b : Cel) : Gives G 160 [aa cs, ac a.1 a.2, ac b.1 b.2] (meetRes w h g a b) := by
  have ho := openCode_gives l [a, b] (by simp)
  rw [open2_impl] at ho
  unfold meetRes
  by_cases h0 : open2 w h g a b = 0
  · obtain ⟨hs, hA, hB⟩ := open2_ok h0
    have hstA : Gives G 46 [aa cs, ac a.1 a.2, .d (.clo 77 [.agg cs] [])] ⟨[.own (w * h).toNat 1 (rowI .i64 (w * h).toNat (outI w (steps w h g a)))], []⟩ := (steps_eq (w := w) (h := h) (g := g) a) ▸ steps_gives l hs (holds_open l ⟨by omega, by omega⟩) (fun _ _ => trivial) a.1 a.2 hA.1
    have hstB : Gives G 46 [aa cs, ac b.1 b.2, .d (.clo 77 [.agg cs] [])] ⟨[.own (w * h).toNat 1 (rowI .i64 (w * h).toNat (outI w (steps w h g b)))], []⟩ := (steps_eq (w := w) (h := h) (g := g) b) ▸ steps_gives l hs (holds_open l ⟨by omega, by omega⟩) (fun _ _ => trivial) b.1 b.2 hB.1
    have hth := those_gives l (by omega) (holds_open l ⟨by omega, by omega⟩) (fun _ _ => trivial)
    have hF := meetF_open (b := b) ⟨by omega, by omega⟩ hA
    have hin : ∀ e ∈ those w h (fun c => Opn w h g c.1 c.2), Has w h e.1 e.2 := fun e he => by
      unfold those at he; rw [List.mem_filter] at he; exact allC_mem he.1
    have hLl : (those w h (fun c => Opn w h g c.1 c.2)).length ≤ 100 := Nat.le_trans (List.length_filter_le ..) (allC_len ⟨by omega, by omega⟩)
    have hbA := fun k => steps_b (g := g) (w := w) (h := h) (c := a) ⟨by omega, by omega⟩ hA.1 k
    have hbB := fun k => steps_b (g := g) (w := w) (h := h) (c := b) ⟨by omega, by omega⟩ hB.1 k
    rw [h0] at ho
    rw [if_pos h0]
    generalize meetF w h g a b = F at hF ⊢
    generalize those w h (fun c => Opn w h g c.1 c.2) = L at hth hF hin hLl
    generalize steps w h g a = X at hstA hF hbA
    generalize steps w h g b = Y at hstB hF hbB
    refine Gives.by rfl rfl (W.seq ?_)
    repeat' first | ((with_reducible apply WR.c_s (f := 37) (fn := Code.f37)); exact rfl; exact rfl; exact rfl; (first | exact rfl); (focus ((repeat' first | exact args_nil | apply args_d | exact toD_d rfl | exact toD_slC rfl rfl (by first | exact rfl) | (apply toD_clo; exact rfl) | exact all_nil | apply all_cons | exact rfl); done)); exact ho) | ((with_reducible apply WH.c_o (f := 46) (fn := Code.f46)); exact rfl; exact rfl; exact rfl; (first | exact rfl); (focus ((repeat' first | exact args_nil | apply args_d | exact toD_d rfl | exact toD_slC rfl rfl (by first | exact rfl) | (apply toD_clo; exact rfl) | exact all_nil | apply all_cons | exact rfl); done)); exact hstA; (first | exact rfl); exact rfl; exact rfl) | ((with_reducible apply WH.c_o (f := 46) (fn := Code.f46)); exact rfl; exact rfl; exact rfl; (first | exact rfl); (focus ((repeat' first | exact args_nil | apply args_d | exact toD_d rfl | exact toD_slC rfl rfl (by first | exact rfl) | (apply toD_clo; exact rfl) | exact all_nil | apply all_cons | exact rfl); done)); exact hstB; (first | exact rfl); exact rfl; exact rfl) | ((with_reducible apply WR.c_o (f := 31) (fn := Code.f31)); exact rfl; exact rfl; exact rfl; (first | exact rfl); (focus ((repeat' first | exact args_nil | apply args_d | exact toD_d rfl | exact toD_slC rfl rfl (by first | exact rfl) | (apply toD_clo; exact rfl) | exact all_nil | apply all_cons | exact rfl); done)); exact hth; (first | exact rfl)) | ((with_reducible apply WR.mv); exact rfl; exact rfl) | ((with_reducible apply WR.ld); exact rfl; exact rfl; exact rfl; (first | exact ld2 | exact loadC_all (IsLawn.len (by assumption)))) | ((with_reducible apply WH.ld); exact rfl; exact rfl; exact rfl; (first | exact ld2 | exact loadC_all (IsLawn.len (by assumption))); exact rfl) | ((with_reducible apply WH.mv); exact rfl; exact rfl; exact rfl) | ((with_reducible apply WR.st); exact rfl; exact rfl; exact rfl; exact st2) | ((with_reducible apply WR.bx); exact rfl; exact rfl; exact (by first | exact IsLawn.len (by assumption) | exact rfl); (first | exact rfl)) | ((with_reducible apply WR.bu); exact rfl; exact rfl) | ((with_reducible apply WR.al); exact rfl; (first | exact rfl)) | ((with_reducible apply WR.nil)) | (with_reducible refine andThen_n ?_) | (with_reducible refine W.seq ?_) | (with_reducible refine W.region ?_) | (with_reducible refine W.skip ?_) | (with_reducible refine W.block ?_) | ((with_reducible apply W.condF); exact rfl) | ((with_reducible apply WH.nil)) | (with_reducible refine W.draw ?_) | (intro hb; try (exfalso; omega)) | ((with_reducible apply WH.mf); exact rfl; exact rfl; exact rfl) | ((with_reducible apply WR.neq); exact rfl; exact rfl; exact rfl) | ((with_reducible apply WR.mf); exact rfl; exact rfl) | ((with_reducible apply WR.bs2); exact rfl; exact rfl; exact rfl; (first | exact rfl)) | ((with_reducible apply WR.le); exact rfl; exact rfl)
    (refine (?_ : W _ (Code.loop _) _ _))
    (refine W.loopM [3, 6, 10, 11, 12, 41, 42] [3, 6, 31, 36, 41] [15] (fun zz : (Nat) × (Cel) × (Int) => match zz with | (i, t, s) => (L.length - i : Nat)) (fun zz : (Nat) × (Cel) × (Int) => match zz with | (i, t, s) => (i ≤ L.length ∧ (t, s) = (L.take i).foldl (meet X Y) ((0, 0), -1) : Prop)) (fun zz : (Nat) × (Cel) × (Int) => match zz with | (i, t, s) => [(43, .a (.d (.s (.int .i64 (i : Nat))))), (13, .a (.d (.s (.int .i64 s))))]) (fun zz : (Nat) × (Cel) × (Int) => match zz with | (i, t, s) => [(12, .flat false ([.int .i8 t.1, .int .i8 t.2]))]) (0, (0, 0), -1) (⟨by omega, rfl⟩) ⟨rfl, rfl, trivial⟩ ⟨rfl, trivial⟩ ⟨(by (repeat' first | exact rfl | assumption | (with_reducible apply noPar_set) | ((with_reducible apply noPar_puto); exact rfl) | (with_reducible apply noPar_put) | (with_reducible apply noPar_putv) | (with_reducible apply noPar_kill) | ((with_reducible apply noPar_mix); exact rfl) | ((with_reducible apply noPar_mixT); exact rfl)); done), trivial⟩ ?_)
    rintro ⟨i, t, s⟩ σ hP hN; dsimp only [setL, putL] at hP ⊢; obtain ⟨n15, hN⟩ := hN
    obtain ⟨hi, hf⟩ := hP
    by_cases hil : i < L.length
    · have hH := hin _ (gC_mem hil)
      have hixe := idx_b (w := w) (h := h) (by omega) hH
      have hgX := outI_get (d := X) hH
      have hgY := outI_get (d := Y) hH
      have hst := fold_snoc (f := meet X Y) ((0, 0), -1) (gC_get hil)
      rw [← hf] at hst
      repeat' first | ((with_reducible apply WR.c_s (f := 48) (fn := Code.f48)); exact rfl; exact rfl; exact rfl; (first | exact rfl); (focus ((repeat' first | exact args_nil | apply args_d | exact toD_d rfl | exact rfl); done)); exact index_gives' (by assumption) _ _ (by omega) (by omega)) | ((with_reducible apply WR.mv); exact rfl; exact rfl) | ((with_reducible apply WR.ld); exact rfl; exact rfl; exact rfl; (first | exact ld2 | exact loadC_all (IsLawn.len (by assumption)) | exact ldC (by first | omega) | exact ldR (by omega))) | ((with_reducible apply WH.ld); exact rfl; exact rfl; exact rfl; (first | exact ld2 | exact loadC_all (IsLawn.len (by assumption)) | exact ldC (by first | omega) | exact ldR (by omega)); exact rfl) | ((with_reducible apply WH.mv); exact rfl; exact rfl; exact rfl) | ((with_reducible apply WR.off); exact rfl) | ((with_reducible apply WR.st); exact rfl; exact rfl; exact rfl; exact st2) | ((with_reducible apply WR.lss); exact rfl; exact rfl; exact rfl) | ((with_reducible apply WR.isn); exact rfl; exact rfl; exact rfl; omega) | ((with_reducible apply WR.is); exact rfl; exact rfl; exact rfl; omega) | ((with_reducible apply WR.pk); exact rfl; exact rfl) | ((with_reducible apply WR.al); exact rfl; (first | exact rfl | assumption)) | ((with_reducible apply WR.nil)) | (with_reducible refine andThen_n ?_) | (with_reducible refine inB_n ?_) | (with_reducible refine W.seq ?_) | (with_reducible refine W.region ?_) | (with_reducible refine W.skip ?_) | (with_reducible refine W.block ?_) | ((with_reducible apply W.condT); exact rfl) | ((with_reducible apply W.condF); exact rfl) | ((with_reducible apply WH.nil)) | (with_reducible refine W.draw ?_) | (intro hb; try (exfalso; omega)) | ((with_reducible apply WR.geq); exact rfl; exact rfl; exact rfl) | ((with_reducible apply WH.is); exact rfl; exact rfl; exact rfl; omega; exact rfl) | ((with_reducible apply WR.ad); exact rfl; exact rfl; exact rfl; (first | exact i64_in _ (by omega) | assumption)) | ((with_reducible apply WH.mx); exact rfl; exact rfl; exact rfl)
      all_goals first
        | (replace hst := hst.trans (meet_yes (by simp only [ix]; omega))
           (refine W.nxt (i + 1, gC L i, max (outI w X ((gC L i).2 * w + (gC L i).1).toNat) (outI w Y ((gC L i).2 * w + (gC L i).1).toNat)) (by first | omega | (dsimp only; omega)) ?_ ⟨rfl, rfl, trivial⟩ ⟨rfl, trivial⟩ ⟨rfl, rfl, rfl, rfl, rfl, rfl, rfl, trivial⟩ ⟨rfl, rfl, rfl, rfl, rfl, trivial⟩ ⟨(by (repeat' first | exact rfl | assumption | (with_reducible apply noPar_set) | ((with_reducible apply noPar_puto); exact rfl) | (with_reducible apply noPar_put) | (with_reducible apply noPar_putv) | (with_reducible apply noPar_kill) | ((with_reducible apply noPar_mix); exact rfl) | ((with_reducible apply noPar_mixT); exact rfl)); done), trivial⟩); (try dsimp only)
           exact ⟨by omega, by rw [hst, hgX, hgY]⟩)
        | (replace hst := hst.trans (meet_no (by simp only [ix]; omega))
           (refine W.nxt (i + 1, t, s) (by first | omega | (dsimp only; omega)) ?_ ⟨rfl, rfl, trivial⟩ ⟨rfl, trivial⟩ ⟨rfl, rfl, rfl, rfl, rfl, rfl, rfl, trivial⟩ ⟨rfl, rfl, rfl, rfl, rfl, trivial⟩ ⟨(by (repeat' first | exact rfl | assumption | (with_reducible apply noPar_set) | ((with_reducible apply noPar_puto); exact rfl) | (with_reducible apply noPar_put) | (with_reducible apply noPar_putv) | (with_reducible apply noPar_kill) | ((with_reducible apply noPar_mix); exact rfl) | ((with_reducible apply noPar_mixT); exact rfl)); done), trivial⟩); (try dsimp only)
           exact ⟨by omega, hst.symm⟩)
    · rw [show L.take i = L from List.take_of_length_le (by omega), hF] at hf
      subst hf
      repeat' first | ((with_reducible apply WR.mv); exact rfl; exact rfl) | ((with_reducible apply WR.ld); exact rfl; exact rfl; exact rfl; (first | exact ld2)) | ((with_reducible apply WR.st); exact rfl; exact rfl; exact rfl; exact st2) | ((with_reducible apply WR.lss); exact rfl; exact rfl; exact rfl) | ((with_reducible apply WR.bu); exact rfl; exact rfl) | ((with_reducible apply WR.nil)) | (with_reducible refine andThen_n ?_) | (with_reducible refine andThen_x ?_) | (with_reducible refine andThen_r ?_) | (with_reducible refine inB_x ?_) | (with_reducible refine W.seq ?_) | (with_reducible refine W.region ?_) | (with_reducible refine W.skip ?_) | (with_reducible refine W.ret ?_) | (with_reducible refine W.exit ?_) | ((with_reducible apply W.condT); exact rfl) | ((with_reducible apply W.condF); exact rfl) | ((with_reducible apply Done.f); (intro hh hh2; exact (nomatch hh2)); (focus ((repeat' first | exact all_nil | apply all_cons | exact res_tmp rfl | exact res_cell rfl rfl (by first | exact rfl) | exact rfl); done)); (focus ((repeat' first | exact all_nil | apply all_cons | exact retOf_s rfl | exact retOf_a rfl | exact rfl); done)); exact rfl; (focus ((repeat' first | exact outs_nil | apply outs_d | exact rfl); done))) | (intro hb; try (exfalso; omega))
      all_goals first
        | (rw [if_pos (by assumption)]; rfl)
        | (rw [if_neg (by assumption)]; rfl)
  · rw [if_neg h0]
    refine Gives.by rfl rfl (W.seq ?_)
    repeat' first | ((with_reducible apply WR.c_s (f := 37) (fn := Code.f37)); exact rfl; exact rfl; exact rfl; (first | exact rfl); (focus ((repeat' first | exact args_nil | apply args_d | exact toD_d rfl | exact toD_slC rfl rfl (by first | exact rfl) | exact all_nil | apply all_cons | exact rfl); done)); exact ho) | ((with_reducible apply WR.mv); exact rfl; exact rfl) | ((with_reducible apply WR.ld); exact rfl; exact rfl; exact rfl; (first | exact ld2 | exact loadC_all (IsLawn.len (by assumption)))) | ((with_reducible apply WR.st); exact rfl; exact rfl; exact rfl; exact st2) | ((with_reducible apply WR.bx); exact rfl; exact rfl; exact (by first | exact IsLawn.len (by assumption) | exact rfl); (first | exact rfl)) | ((with_reducible apply WR.bu); exact rfl; exact rfl) | ((with_reducible apply WR.al); exact rfl; (first | exact rfl)) | ((with_reducible apply WR.nil)) | (with_reducible refine andThen_n ?_) | (with_reducible refine andThen_r ?_) | (with_reducible refine W.seq ?_) | (with_reducible refine W.region ?_) | (with_reducible refine W.ret ?_) | ((with_reducible apply W.condT); exact rfl) | ((with_reducible apply Done.f); (intro hh hh2; exact (nomatch hh2)); (focus ((repeat' first | exact all_nil | apply all_cons | exact res_tmp rfl | exact res_cell rfl rfl (by first | exact IsLawn.len (by assumption) | exact rfl) | exact rfl); done)); (focus ((repeat' first | exact all_nil | apply all_cons | exact retOf_s rfl | exact retOf_a rfl | exact rfl); done)); exact rfl; (focus ((repeat' first | exact outs_nil | apply outs_d | exact rfl); done))) | (intro hb; try (exfalso; omega)) | ((with_reducible apply WR.neq); exact rfl; exact rfl; exact rfl) | ((with_reducible apply WR.bs2); exact rfl; exact rfl; exact rfl; (first | exact rfl))
    all_goals rfl
theorem meetCellS_gives (l : IsLawn w h g cs) (a b : Cel) (hx : InB a) (hy : InB b) : Gives G 159 [aa cs, ac a.1 a.2, ac b.1 b.2] (meetRes w h g a b) := by
  have ho := l04Told_gives l [a, b] (by simp) true (by intro c hc; simp at hc; rcases hc with rfl | rfl <;> assumption)
  rw [open2_spec] at ho
  unfold meetRes
  by_cases h0 : open2 w h g a b = 0
  · obtain ⟨hs, hA, hB⟩ := open2_ok h0
    have hstA : Gives G 43 [ar cs, ac a.1 a.2, ab false] ⟨[.agg (grid .i64 (steps w h g a))], []⟩ := l01Reach_gives l ⟨by omega, by omega⟩ false a.1 a.2 hA.1
    have hstB : Gives G 43 [ar cs, ac b.1 b.2, ab false] ⟨[.agg (grid .i64 (steps w h g b))], []⟩ := l01Reach_gives l ⟨by omega, by omega⟩ false b.1 b.2 hB.1
    have hth := l01All_gives l (by omega)
    have hin : ∀ e ∈ allC w h, Has w h e.1 e.2 := fun e he => allC_mem he
    have hLl := allC_len (w := w) (h := h) ⟨by omega, by omega⟩
    rw [h0] at ho
    rw [if_pos h0]
    unfold meetF
    generalize allC w h = L at hth hin hLl ⊢
    generalize steps w h g a = X at hstA ⊢
    generalize steps w h g b = Y at hstB ⊢
    refine Gives.by rfl rfl (W.seq ?_)
    repeat' first | ((with_reducible apply WR.c_s (f := 35) (fn := Code.f35)); exact rfl; exact rfl; exact rfl; (first | exact rfl); (focus ((repeat' first | exact args_nil | apply args_d | exact toD_d rfl | exact toD_ptr rfl rfl | exact toD_slC rfl rfl (by first | exact rfl) | exact rfl); done)); exact ho) | ((with_reducible apply WR.c_a (f := 43) (fn := Code.f43)); exact rfl; exact rfl; exact rfl; (first | exact rfl); (focus ((repeat' first | exact args_nil | apply args_d | exact toD_d rfl | exact toD_ptr rfl rfl | exact toD_slC rfl rfl (by first | exact rfl) | exact rfl); done)); exact hstA) | ((with_reducible apply WR.c_a (f := 43) (fn := Code.f43)); exact rfl; exact rfl; exact rfl; (first | exact rfl); (focus ((repeat' first | exact args_nil | apply args_d | exact toD_d rfl | exact toD_ptr rfl rfl | exact toD_slC rfl rfl (by first | exact rfl) | exact rfl); done)); exact hstB) | ((with_reducible apply WR.c_o (f := 60) (fn := Code.f60)); exact rfl; exact rfl; exact rfl; (first | exact rfl); (focus ((repeat' first | exact args_nil | apply args_d | exact toD_d rfl | exact toD_ptr rfl rfl | exact toD_slC rfl rfl (by first | exact rfl) | exact rfl); done)); exact hth; (first | exact rfl)) | ((with_reducible apply WR.mv); exact rfl; exact rfl) | ((with_reducible apply WR.st); exact rfl; exact rfl; exact rfl; exact st2) | ((with_reducible apply WR.st); exact rfl; exact rfl; exact rfl; exact storeAll (by first | exact List.length_replicate .. | exact grid_len | exact IsLawn.len (by assumption) | exact rfl) (by first | exact List.length_replicate .. | exact grid_len | exact IsLawn.len (by assumption) | exact rfl)) | ((with_reducible apply WR.ld); exact rfl; exact rfl; exact rfl; (first | exact ld2)) | ((with_reducible apply WR.al); exact rfl; (first | exact rfl)) | ((with_reducible apply WR.bx); exact rfl; exact rfl; exact (by first | exact List.length_replicate .. | exact grid_len | exact IsLawn.len (by assumption) | exact rfl); (first | exact rfl)) | ((with_reducible apply WR.bu); exact rfl; exact rfl) | ((with_reducible apply WR.nil)) | (with_reducible refine andThen_n ?_) | (with_reducible refine W.seq ?_) | (with_reducible refine W.region ?_) | (with_reducible refine W.skip ?_) | (with_reducible refine W.block ?_) | ((with_reducible apply W.condF); exact rfl) | (intro hb; try (exfalso; omega)) | ((with_reducible apply WR.neq); exact rfl; exact rfl; exact rfl) | ((with_reducible apply WR.bs2); exact rfl; exact rfl; exact rfl; (first | exact rfl))
    (refine (?_ : W _ (Code.loop _) _ _))
    (refine W.loopM [6, 10, 11, 12, 14] [6, 10, 11, 32] [] (fun zz : (Nat) × (Cel) × (Int) => match zz with | (i, t, s) => (L.length - i : Nat)) (fun zz : (Nat) × (Cel) × (Int) => match zz with | (i, t, s) => (i ≤ L.length ∧ (t, s) = (L.take i).foldl (meet X Y) ((0, 0), -1) : Prop)) (fun zz : (Nat) × (Cel) × (Int) => match zz with | (i, t, s) => [(15, .a (.d (.s (.int .i64 (i : Nat))))), (13, .a (.d (.s (.int .i64 s))))]) (fun zz : (Nat) × (Cel) × (Int) => match zz with | (i, t, s) => [(12, .flat false ([.int .i8 t.1, .int .i8 t.2]))]) (0, (0, 0), -1) (⟨by omega, rfl⟩) ⟨rfl, rfl, trivial⟩ ⟨rfl, trivial⟩ trivial ?_)
    rintro ⟨i, t, s⟩ σ hP hN; dsimp only [setL, putL] at hP ⊢
    obtain ⟨hi, hf⟩ := hP
    by_cases hil : i < L.length
    · have hH := hin _ (gC_mem hil)
      have hst := fold_snoc (f := meet X Y) ((0, 0), -1) (gC_get hil)
      rw [← hf] at hst
      repeat' first | ((with_reducible apply WR.c_s (f := 73) (fn := Code.f73)); exact rfl; exact rfl; exact rfl; (first | exact rfl); (focus ((repeat' first | exact args_nil | apply args_d | exact toD_d rfl | exact rfl); done)); exact l00Max_gives _ _) | ((with_reducible apply WR.mv); exact rfl; exact rfl) | ((with_reducible apply WH.mv); exact rfl; exact rfl; exact rfl) | ((with_reducible apply WR.st); exact rfl; exact rfl; exact rfl; exact st2) | ((with_reducible apply WR.lss); exact rfl; exact rfl; exact rfl) | ((with_reducible apply WR.ld); exact rfl; exact rfl; exact rfl; (first | exact ldC (by first | omega) | exact ldCx (by first | omega) | exact ldCy (by first | omega) | exact ldG (by omega))) | ((with_reducible apply WH.ld); exact rfl; exact rfl; exact rfl; (first | exact ldC (by first | omega) | exact ldCx (by first | omega) | exact ldCy (by first | omega) | exact ldG (by omega)); exact rfl) | ((with_reducible apply WH.isn); exact rfl; exact rfl; exact rfl; omega; exact rfl) | ((with_reducible apply WH.ia); exact rfl; exact rfl; exact rfl; omega; exact rfl) | ((with_reducible apply WH.fa); exact rfl; exact rfl; exact rfl) | ((with_reducible apply WR.nil)) | (with_reducible refine andThen_n ?_) | (with_reducible refine andThen_x ?_) | (with_reducible refine inB_n ?_) | (with_reducible refine inB_x ?_) | (with_reducible refine W.seq ?_) | (with_reducible refine W.region ?_) | (with_reducible refine W.skip ?_) | (with_reducible refine W.exit ?_) | (with_reducible refine W.block ?_) | ((with_reducible apply W.condT); exact rfl) | ((with_reducible apply W.condF); exact rfl) | ((with_reducible apply WH.nil)) | (with_reducible refine W.draw ?_) | (intro hb; try (exfalso; omega)) | ((with_reducible apply WR.off); exact rfl) | ((with_reducible apply WR.pk); exact rfl; exact rfl) | ((with_reducible apply WR.ad); exact rfl; exact rfl; exact rfl; (first | exact i64_in _ (by omega))) | ((with_reducible apply WR.isn); exact rfl; exact rfl; exact rfl; omega) | ((with_reducible apply WR.le); exact rfl; exact rfl)
      all_goals first
        | (replace hst := hst.trans (meet_yes (by simp only [ix]; omega))
           (refine W.nxt (i + 1, gC L i, max (X (10 * (gC L i).2.toNat + (gC L i).1.toNat)) (Y (10 * (gC L i).2.toNat + (gC L i).1.toNat))) (by first | omega | (dsimp only; omega)) ?_ ⟨rfl, rfl, trivial⟩ ⟨rfl, trivial⟩ ⟨rfl, rfl, rfl, rfl, rfl, trivial⟩ ⟨rfl, rfl, rfl, rfl, trivial⟩ trivial); (try dsimp only)
           exact ⟨by omega, hst.symm⟩)
        | (replace hst := hst.trans (meet_no (by simp only [ix]; omega))
           (refine W.nxt (i + 1, t, s) (by first | omega | (dsimp only; omega)) ?_ ⟨rfl, rfl, trivial⟩ ⟨rfl, trivial⟩ ⟨rfl, rfl, rfl, rfl, rfl, trivial⟩ ⟨rfl, rfl, rfl, rfl, trivial⟩ trivial); (try dsimp only)
           exact ⟨by omega, hst.symm⟩)
    · rw [show L.take i = L from List.take_of_length_le (by omega)] at hf
      rw [← hf]
      repeat' first | ((with_reducible apply WR.mv); exact rfl; exact rfl) | ((with_reducible apply WR.st); exact rfl; exact rfl; exact rfl; exact st2) | ((with_reducible apply WR.lss); exact rfl; exact rfl; exact rfl) | ((with_reducible apply WR.ld); exact rfl; exact rfl; exact rfl; (first | exact ld2)) | ((with_reducible apply WR.bu); exact rfl; exact rfl) | ((with_reducible apply WR.nil)) | (with_reducible refine andThen_n ?_) | (with_reducible refine andThen_x ?_) | (with_reducible refine andThen_r ?_) | (with_reducible refine inB_x ?_) | (with_reducible refine W.seq ?_) | (with_reducible refine W.region ?_) | (with_reducible refine W.skip ?_) | (with_reducible refine W.ret ?_) | (with_reducible refine W.exit ?_) | ((with_reducible apply W.condT); exact rfl) | ((with_reducible apply W.condF); exact rfl) | ((with_reducible apply Done.f); (intro hh hh2; exact (nomatch hh2)); (focus ((repeat' first | exact all_nil | apply all_cons | exact res_tmp rfl | exact res_cell rfl rfl (by first | exact rfl) | exact rfl); done)); (focus ((repeat' first | exact all_nil | apply all_cons | exact retOf_s rfl | exact retOf_a rfl | exact rfl); done)); exact rfl; (focus ((repeat' first | exact outs_nil | apply outs_d | exact rfl); done))) | (intro hb; try (exfalso; omega)) | ((with_reducible apply WR.le); exact rfl; exact rfl)
      all_goals first
        | (rw [if_pos (by assumption)]; rfl)
        | (rw [if_neg (by assumption)]; rfl)
  · rw [if_neg h0]
    refine Gives.by rfl rfl (W.seq ?_)
    repeat' first | ((with_reducible apply WR.c_s (f := 35) (fn := Code.f35)); exact rfl; exact rfl; exact rfl; (first | exact rfl); (focus ((repeat' first | exact args_nil | apply args_d | exact toD_d rfl | exact toD_ptr rfl rfl | exact toD_slC rfl rfl (by first | exact rfl) | exact all_nil | apply all_cons | exact rfl); done)); exact ho) | ((with_reducible apply WR.mv); exact rfl; exact rfl) | ((with_reducible apply WR.st); exact rfl; exact rfl; exact rfl; exact st2) | ((with_reducible apply WR.ld); exact rfl; exact rfl; exact rfl; (first | exact ld2)) | ((with_reducible apply WR.al); exact rfl; (first | exact rfl)) | ((with_reducible apply WR.bx); exact rfl; exact rfl; exact (by first | exact IsLawn.len (by assumption) | exact rfl); (first | exact rfl)) | ((with_reducible apply WR.bu); exact rfl; exact rfl) | ((with_reducible apply WR.nil)) | (with_reducible refine andThen_n ?_) | (with_reducible refine andThen_r ?_) | (with_reducible refine W.seq ?_) | (with_reducible refine W.region ?_) | (with_reducible refine W.ret ?_) | ((with_reducible apply W.condT); exact rfl) | ((with_reducible apply Done.f); (intro hh hh2; exact (nomatch hh2)); (focus ((repeat' first | exact all_nil | apply all_cons | exact res_tmp rfl | exact res_cell rfl rfl (by first | exact IsLawn.len (by assumption) | exact rfl) | exact rfl); done)); (focus ((repeat' first | exact all_nil | apply all_cons | exact retOf_s rfl | exact retOf_a rfl | exact rfl); done)); exact rfl; (focus ((repeat' first | exact outs_nil | apply outs_d | exact rfl); done))) | (intro hb; try (exfalso; omega)) | ((with_reducible apply WR.neq); exact rfl; exact rfl; exact rfl) | ((with_reducible apply WR.bs2); exact rfl; exact rfl; exact rfl; (first | exact rfl))
    all_goals rfl
end Go.DM
