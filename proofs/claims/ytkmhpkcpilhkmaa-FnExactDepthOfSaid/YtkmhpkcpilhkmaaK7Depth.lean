/- How deep a cell lies: both sides, the statement. -/
import Derived.Test.YtkmhpkcpilhkmaaK7Sides
import Derived.Test.YtkmhpkcpilhkmaaK7Home
set_option linter.unusedSimpArgs false
set_option linter.unusedVariables false
set_option maxHeartbeats 4000000
namespace Go.DM
open Go.IntWalk
variable {w h : Int} {g : Nat → Int} {cs : List S}

theorem has_mem {c : Cel} (hc : Has w h c.1 c.2) : c ∈ allC w h := by
  unfold allC cellsTo
  rw [List.mem_map]
  have hW : c.1.toNat < w.toNat := by simp only [Has] at hc; omega
  refine ⟨c.2.toNat * w.toNat + c.1.toNat, ?_, ?_⟩
  · rw [List.mem_range]
    have h1 : (c.2.toNat + 1) * w.toNat ≤ h.toNat * w.toNat := Nat.mul_le_mul_right _ (by simp only [Has] at hc; omega)
    rw [Nat.succ_mul] at h1
    rw [Nat.mul_comm w.toNat]
    omega
  · have h1 := div_idx (y := c.2.toNat) hW
    rw [h1.1, h1.2]
    simp only [Has] at hc
    exact Prod.ext (by simp only; omega) (by simp only; omega)
/-! Steps come to all cells to which they can. -/
theorem visit_sub {ok : Cel → Prop} [DecidablePred ok] {c a : Cel} : ∀ (L : List Cel) (s : (Nat → Int) × List Cel), a ∈ s.2 → a ∈ (L.foldl (visit ok c) s).2
  | [], s, ha => ha
  | e :: r, s, ha => by
    rw [List.foldl_cons]
    refine visit_sub r _ ?_
    unfold visit; split
    · exact List.mem_append_left _ ha
    · exact ha
theorem visit_new {ok : Cel → Prop} [DecidablePred ok] (hs : w ≤ 10 ∧ h ≤ 10) (hok : ∀ e, ok e → Has w h e.1 e.2) {c a : Cel} (ha : Has w h a.1 a.2) : ∀ (L : List Cel) (s : (Nat → Int) × List Cel), 0 ≤ (L.foldl (visit ok c) s).1 (ix a) → 0 ≤ s.1 (ix a) ∨ a ∈ (L.foldl (visit ok c) s).2
  | [], s, h0 => .inl h0
  | e :: r, s, h0 => by
    rw [List.foldl_cons] at h0 ⊢
    rcases visit_new hs hok ha r _ h0 with h1 | h1
    · unfold visit at h1
      split at h1
      · rename_i hh
        simp only [gset] at h1
        split at h1
        · rename_i h2
          have h3 := ix_inj hs ha (hok e hh.1) h2
          refine .inr (visit_sub r _ ?_)
          unfold visit; rw [if_pos hh, h3]
          exact List.mem_append_right _ (List.mem_singleton.2 rfl)
        · exact .inl h1
      · exact .inl h1
    · exact .inr h1
theorem visit_all {ok : Cel → Prop} [DecidablePred ok] {c e : Cel} : ∀ (L : List Cel) (s : (Nat → Int) × List Cel), 0 ≤ s.1 (ix c) → e ∈ L → ok e → 0 ≤ (L.foldl (visit ok c) s).1 (ix e)
  | [], s, _, he, _ => by cases he
  | a :: r, s, h0, he, hk => by
    have h1 := visit_keep (ok := ok) (c := c) (k := ix c) [a] s h0
    simp only [List.foldl_cons, List.foldl_nil] at h1
    rw [List.foldl_cons]
    rcases List.mem_cons.1 he with rfl | he
    · have h2 : 0 ≤ (visit ok c s e).1 (ix e) := by
        unfold visit; split
        · simp only [gset, if_true]; omega
        · rename_i hh
          exact Int.not_lt.1 fun h3 => hh ⟨hk, h3⟩
      rw [visit_keep r _ h2]; exact h2
    · exact visit_all r _ (by omega) he hk
theorem visit_count {ok : Cel → Prop} [DecidablePred ok] (hs : w ≤ 10 ∧ h ≤ 10) (hok : ∀ e, ok e → Has w h e.1 e.2) {c : Cel} : ∀ (L : List Cel) {s : (Nat → Int) × List Cel}, BInv w h s.1 (c :: s.2) → unk (L.foldl (visit ok c) s).1 + (L.foldl (visit ok c) s).2.length = unk s.1 + s.2.length
  | [], s, _ => rfl
  | a :: r, s, b => by
    rw [List.foldl_cons, visit_count hs hok r (visit_inv hs hok b)]
    unfold visit; split
    · rename_i hh
      have h1 := (b.push hs (List.mem_cons_self ..) (hok a hh.1) hh.2).2
      rw [List.length_append, List.length_singleton]
      simp only at h1 ⊢
      omega
    · rfl
def Closed (w h : Int) (ok : Cel → Prop) (d : Nat → Int) (r : List Cel) : Prop := ∀ c, Has w h c.1 c.2 → 0 ≤ d (ix c) → c ∈ r ∨ ∀ e ∈ Near c.1 c.2, ok e → 0 ≤ d (ix e)
theorem bfs_closed {ok : Cel → Prop} [DecidablePred ok] (hs : w ≤ 10 ∧ h ≤ 10) (hok : ∀ e, ok e → Has w h e.1 e.2) : ∀ (n : Nat) {s : (Nat → Int) × List Cel}, BInv w h s.1 s.2 → unk s.1 + s.2.length ≤ n → Closed w h ok s.1 s.2 → Closed w h ok (bfs ok n s) []
  | 0, (d, []), _, _, b => b
  | 0, (d, c :: r), _, hn, b => by simp at hn
  | n + 1, (d, []), _, _, b => b
  | n + 1, (d, c :: r), i, hn, b => by
    have hc := i.q c (List.mem_cons_self ..)
    have h1 := fold_inv hs hok (Near c.1 c.2) (s := (d, r)) i
    have h2 := visit_count hs hok (Near c.1 c.2) (s := (d, r)) i
    refine bfs_closed hs hok n ⟨h1.lo, h1.hi, fun a ha => h1.q a (List.mem_cons_of_mem _ ha), by have := h1.len; rw [List.length_cons] at this; omega⟩ (by simp only [List.length_cons] at hn; simp only at h2; omega) ?_
    intro a ha h0
    by_cases hac : a = c
    · subst hac
      exact .inr fun e he hk => visit_all _ _ hc.2 he hk
    · rcases visit_new hs hok ha (Near c.1 c.2) (d, r) h0 with h3 | h3
      · rcases b a ha h3 with h4 | h4
        · rcases List.mem_cons.1 h4 with h5 | h5
          · exact absurd h5 hac
          · exact .inl (visit_sub _ _ h5)
        · refine .inr fun e he hk => ?_
          have h5 := h4 e he hk
          rw [visit_keep (Near c.1 c.2) (d, r) h5]; exact h5
      · exact .inl h3
theorem far_closed {ok : Cel → Prop} [DecidablePred ok] (hs : w ≤ 10 ∧ h ≤ 10) (hok : ∀ e, ok e → Has w h e.1 e.2) {c : Cel} (hc : Has w h c.1 c.2) : Closed w h ok (far ok c) [] := by
  have hf := BInv.first hs hc
  refine bfs_closed hs hok 100 hf.1 (by rw [hf.2]; simp) ?_
  intro a ha h0
  simp only [gset] at h0
  split at h0
  · rename_i h2; exact .inl (List.mem_singleton.2 (ix_inj hs ha hc h2))
  · omega

/-- Steps over grass. -/
def stepsG (w h : Int) (g : Nat → Int) (c : Cel) : Nat → Int := far (okS w h g true) c
theorem stepsG_eq (c : Cel) : far (okP w h fun c => Is w h g 0 c.1 c.2) c = stepsG w h g c := by
  unfold stepsG
  refine far_congr (fun e => ?_) c
  simp only [okP, okS, Is, ix]
  constructor
  · rintro ⟨h1, _, h2⟩; exact ⟨h1, .inl h2⟩
  · rintro ⟨h1, h2 | h2⟩
    · exact ⟨h1, h1, h2⟩
    · cases h2.1
theorem stepsG_b (hs : w ≤ 10 ∧ h ≤ 10) {c : Cel} (hc : Has w h c.1 c.2) (k : Nat) : -1 ≤ stepsG w h g c k ∧ stepsG w h g c k ≤ 100 := far_b hs (fun e he => he.1) hc k
theorem side_le : ∀ (L : List Cel) (f : Nat → Int), (L.foldl (sideStep w h g) f) 0 ≤ f 0 + L.length
  | [], f => by simp
  | e :: r, f => by
    rw [List.foldl_cons]
    have h1 := side_le r (sideStep w h g f e)
    have h2 : sideStep w h g f e 0 ≤ f 0 + 1 := by
      simp only [sideStep, gset]; split
      · rename_i h3; rw [← h3]; exact Int.le_refl _
      · omega
    rw [List.length_cons]
    omega
/-- A cell beside which there is no grass to the north is one of the border. -/
theorem bord_north {c : Cel} (hg : ∀ k, k < 100 → 0 ≤ g k) (hs : w ≤ 10 ∧ h ≤ 10) (hn : ¬ Is w h g 0 c.1 (c.2 - 1)) : sides w h g c 0 < 4 := by
  have h1 := side_le (w := w) (h := h) (g := g) [(c.1 - 1, c.2), (c.1 + 1, c.2), (c.1, c.2 + 1)] (sideStep w h g (fun _ => 0) (c.1, c.2 - 1))
  have h2 : sideStep w h g (fun _ => 0) (c.1, c.2 - 1) 0 = 0 := by
    simp only [sideStep, gset]
    rw [if_neg]
    intro h3
    by_cases hh : Has w h c.1 (c.2 - 1)
    · rw [sideOf_yes (e := (c.1, c.2 - 1)) hh] at h3
      have hk := hg (10 * (c.2 - 1).toNat + c.1.toNat) (by simp only [Has] at hh; omega)
      exact hn ⟨hh, by simp only at h3; omega⟩
    · rw [sideOf_no (e := (c.1, c.2 - 1)) hh] at h3; cases h3
  rw [h2] at h1
  have h4 : sides w h g c = ([(c.1 - 1, c.2), (c.1 + 1, c.2), (c.1, c.2 + 1)] : List Cel).foldl (sideStep w h g) (sideStep w h g (fun _ => 0) (c.1, c.2 - 1)) := rfl
  rw [h4]
  simp only [List.length_cons, List.length_nil] at h1
  omega
/-- Steps come to the border. -/
theorem border_reached (hs : w ≤ 10 ∧ h ≤ 10) (hg : ∀ k, k < 100 → 0 ≤ g k) {a : Cel} (ha : Is w h g 0 a.1 a.2) : ∃ c ∈ border w h g true, 0 ≤ stepsG w h g a (ix c) := by
  have hcl := far_closed (ok := okS w h g true) hs (fun e he => he.1) ha.1
  have key : ∀ (n : Nat) (c : Cel), c.2.toNat = n → Is w h g 0 c.1 c.2 → 0 ≤ stepsG w h g a (ix c) → ∃ c ∈ border w h g true, 0 ≤ stepsG w h g a (ix c) := by
    intro n
    induction n with
    | zero =>
      intro c hn hc h0
      refine ⟨c, ?_, h0⟩
      rw [← those_border]; unfold those; rw [List.mem_filter]
      exact ⟨has_mem hc.1, decide_eq_true (p := bordP w h g c) ⟨hc, bord_north hg hs fun hh => by have h1 := hh.1; omega⟩⟩
    | succ n ih =>
      intro c hn hc h0
      by_cases hno : Is w h g 0 c.1 (c.2 - 1)
      · rcases hcl c hc.1 h0 with h1 | h1
        · cases h1
        · refine ih (c.1, c.2 - 1) (by simp only; omega) hno (h1 (c.1, c.2 - 1) (by simp [Near]) ⟨hno.1, .inl hno.2⟩)
      · refine ⟨c, ?_, h0⟩
        rw [← those_border]; unfold those; rw [List.mem_filter]
        exact ⟨has_mem hc.1, decide_eq_true (p := bordP w h g c) ⟨hc, bord_north hg hs hno⟩⟩
  refine key _ a rfl ha ?_
  show 0 ≤ bfs _ 100 _ (ix a)
  rw [bfs_keep _ _ (by simp [gset])]; simp [gset]
def dmin1 (d : Nat → Int) (s : Int) (c : Cel) : Int := if 0 ≤ d (ix c) ∧ (s < 0 ∨ d (ix c) < s) then d (ix c) else s
def dmin2 (d : Nat → Int) (s : Int) (c : Cel) : Int := if 0 ≤ d (ix c) ∧ d (ix c) < s then d (ix c) else s
theorem dmin1_yes {d : Nat → Int} {s : Int} {c : Cel} (hh : 0 ≤ d (ix c) ∧ (s < 0 ∨ d (ix c) < s)) : dmin1 d s c = d (ix c) := if_pos hh
theorem dmin1_no {d : Nat → Int} {s : Int} {c : Cel} (hh : ¬ (0 ≤ d (ix c) ∧ (s < 0 ∨ d (ix c) < s))) : dmin1 d s c = s := if_neg hh
theorem dmin2_yes {d : Nat → Int} {s : Int} {c : Cel} (hh : 0 ≤ d (ix c) ∧ d (ix c) < s) : dmin2 d s c = d (ix c) := if_pos hh
theorem dmin2_no {d : Nat → Int} {s : Int} {c : Cel} (hh : ¬ (0 ≤ d (ix c) ∧ d (ix c) < s)) : dmin2 d s c = s := if_neg hh
theorem dmin_same {d : Nat → Int} (hd : ∀ k, d k ≤ 100) : ∀ (L : List Cel) (s t : Int), ((s = -1 ∧ t = 1000) ∨ (s = t ∧ 0 ≤ s ∧ s ≤ 100)) → ((∃ c ∈ L, 0 ≤ d (ix c)) ∨ s = t) → L.foldl (dmin1 d) s = L.foldl (dmin2 d) t
  | [], s, t, _, he => by
    rcases he with ⟨c, hc, _⟩ | he
    · cases hc
    · exact he
  | c :: r, s, t, hst, he => by
    rw [List.foldl_cons, List.foldl_cons]
    have hdc := hd (ix c)
    have h1 : ((dmin1 d s c = -1 ∧ dmin2 d t c = 1000) ∨ (dmin1 d s c = dmin2 d t c ∧ 0 ≤ dmin1 d s c ∧ dmin1 d s c ≤ 100)) ∧ (0 ≤ d (ix c) → dmin1 d s c = dmin2 d t c) ∧ (s = t → dmin1 d s c = dmin2 d t c) := by
      clear he
      unfold dmin1 dmin2
      split <;> split <;> omega
    refine dmin_same hd r _ _ h1.1 ?_
    rcases he with ⟨e, he, h0⟩ | he
    · rcases List.mem_cons.1 he with rfl | he
      · exact .inr (h1.2.1 h0)
      · exact .inl ⟨e, he, h0⟩
    · exact .inr (h1.2.2 he)
def depthC (w h : Int) (g : Nat → Int) (c : Cel) : Int := belowCode (LawnOk w h g) (Has w h c.1 c.2) (Is w h g 0 c.1 c.2)
theorem depthC_ok {c : Cel} (h0 : depthC w h g c = 0) : (1 ≤ w ∧ w ≤ 10 ∧ 1 ≤ h ∧ h ≤ 10) ∧ (∀ k, k < 100 → g k ≤ 3) ∧ Is w h g 0 c.1 c.2 := by
  obtain ⟨h1, h2, h3⟩ := belowCode_zero.1 h0
  exact ⟨⟨h1.1.1, h1.1.2, h1.2.1.1, h1.2.1.2⟩, fun k hk => (h1.2.2 k hk).1, h3⟩
def depth1 (w h : Int) (g : Nat → Int) (c : Cel) : Int := (border w h g true).foldl (dmin1 (stepsG w h g c)) (-1)
theorem depth_same (l : IsLawn w h g cs) {c : Cel} (h0 : depthC w h g c = 0) : (border w h g true).foldl (dmin2 (stepsG w h g c)) 1000 = depth1 w h g c := by
  obtain ⟨hs, hg, hI⟩ := depthC_ok h0
  exact (dmin_same (fun k => (stepsG_b ⟨by omega, by omega⟩ hI.1 k).2) _ _ _ (.inl ⟨rfl, rfl⟩) (.inl (border_reached ⟨by omega, by omega⟩ (fun k hk => (l.cb k hk).1) hI))).symm
def depthRes (w h : Int) (g : Nat → Int) (c : Cel) : Res := if depthC w h g c = 0 then ⟨[.s (.int .i64 (depth1 w h g c)), .s (.int .i64 0)], []⟩ else ⟨[.s (.int .i64 0), .s (.int .i64 (depthC w h g c))], []⟩
theorem border_in {b : Bool} : ∀ e ∈ border w h g b, Has w h e.1 e.2 := fun e he => by
  unfold border ofKind at he
  rw [List.mem_filter, List.mem_filter] at he; exact allC_mem he.1.1
theorem border_len {b : Bool} (hs : w ≤ 10 ∧ h ≤ 10) : (border w h g b).length ≤ 100 := Nat.le_trans (List.length_filter_le ..) (Nat.le_trans (List.length_filter_le ..) (allC_len hs))
theorem depthOf_gives (l : IsLawn w h g cs) (c : Cel) : Gives G 20 [aa cs, ac c.1 c.2] (depthRes w h g c) := by
  have ho := grassCode_gives l [c] (by simp)
  rw [show belowCode (LawnOk w h g) (∀ e ∈ ([c] : List Cel), Has w h e.1 e.2) (∀ e ∈ ([c] : List Cel), Is w h g 0 e.1 e.2) = depthC w h g c from belowCode_congr Iff.rfl (by simp) (by simp)] at ho
  unfold depthRes
  by_cases h0 : depthC w h g c = 0
  · obtain ⟨hs, hg, hI⟩ := depthC_ok h0
    have hst : Gives G 46 [aa cs, ac c.1 c.2, .d (.clo 32 [.agg cs] [])] ⟨[.own (w * h).toNat 1 (rowI .i64 (w * h).toNat (outI w (stepsG w h g c)))], []⟩ := (stepsG_eq (w := w) (h := h) (g := g) c) ▸ steps_gives l hs (holds_grass l ⟨by omega, by omega⟩) (fun _ _ => trivial) c.1 c.2 hI.1
    have hth := those_gives l (by omega) (holds_border l ⟨by omega, by omega⟩ hg) (fun e he => by simp only [Has] at he; omega)
    rw [those_border] at hth
    have hin := border_in (w := w) (h := h) (g := g) (b := true)
    have hLl := border_len (w := w) (h := h) (g := g) (b := true) ⟨by omega, by omega⟩
    rw [h0] at ho
    rw [if_pos h0]
    unfold depth1
    generalize border w h g true = L at hth hin hLl ⊢
    generalize stepsG w h g c = d at hst ⊢
    refine Gives.by rfl rfl (W.seq ?_)
    repeat' first | ((with_reducible apply WR.c_s (f := 45) (fn := Code.f45)); exact rfl; exact rfl; exact rfl; (first | exact rfl); (focus ((repeat' first | exact args_nil | apply args_d | exact toD_d rfl | exact toD_slC rfl rfl (by first | exact rfl) | (apply toD_clo; exact rfl) | exact all_nil | apply all_cons | exact rfl); done)); exact ho) | ((with_reducible apply WR.c_o (f := 46) (fn := Code.f46)); exact rfl; exact rfl; exact rfl; (first | exact rfl); (focus ((repeat' first | exact args_nil | apply args_d | exact toD_d rfl | exact toD_slC rfl rfl (by first | exact rfl) | (apply toD_clo; exact rfl) | exact all_nil | apply all_cons | exact rfl); done)); exact hst; (first | exact rfl)) | ((with_reducible apply WR.c_o (f := 31) (fn := Code.f31)); exact rfl; exact rfl; exact rfl; (first | exact rfl); (focus ((repeat' first | exact args_nil | apply args_d | exact toD_d rfl | exact toD_slC rfl rfl (by first | exact rfl) | (apply toD_clo; exact rfl) | exact all_nil | apply all_cons | exact rfl); done)); exact hth; (first | exact rfl)) | ((with_reducible apply WR.mv); exact rfl; exact rfl) | ((with_reducible apply WR.ld); exact rfl; exact rfl; exact rfl; (first | exact ld2 | exact loadC_all (IsLawn.len (by assumption)))) | ((with_reducible apply WR.nil)) | (with_reducible refine andThen_n ?_) | (with_reducible refine W.seq ?_) | (with_reducible refine W.region ?_) | (with_reducible refine W.skip ?_) | (with_reducible refine W.block ?_) | ((with_reducible apply W.condF); exact rfl) | (intro hb; try (exfalso; omega)) | ((with_reducible apply WR.bx); exact rfl; exact rfl; exact (by first | exact IsLawn.len (by assumption) | exact rfl); (first | exact rfl)) | ((with_reducible apply WR.mf); exact rfl; exact rfl) | ((with_reducible apply WR.neq); exact rfl; exact rfl; exact rfl) | ((with_reducible apply WR.bs1); exact rfl; exact rfl; (first | exact rfl)) | ((with_reducible apply WR.le); exact rfl; exact rfl)
    (refine W.loopM [2, 7, 27, 28] [2, 23, 27] [10] (fun zz : (Nat) × (Int) => match zz with | (i, s) => (L.length - i : Nat)) (fun zz : (Nat) × (Int) => match zz with | (i, s) => (i ≤ L.length ∧ s = (L.take i).foldl (dmin1 d) (-1) : Prop)) (fun zz : (Nat) × (Int) => match zz with | (i, s) => [(29, .a (.d (.s (.int .i64 (i : Nat))))), (8, .a (.d (.s (.int .i64 s))))]) (fun zz : (Nat) × (Int) => match zz with | (i, s) => []) (0, -1) (⟨by omega, rfl⟩) ⟨rfl, rfl, trivial⟩ trivial ⟨(by (repeat' first | exact rfl | assumption | (with_reducible apply noPar_set) | ((with_reducible apply noPar_puto); exact rfl) | (with_reducible apply noPar_put) | (with_reducible apply noPar_putv) | (with_reducible apply noPar_kill) | ((with_reducible apply noPar_mix); exact rfl) | ((with_reducible apply noPar_mixT); exact rfl)); done), trivial⟩ ?_)
    rintro ⟨i, s⟩ σ hP hN; dsimp only [setL, putL] at hP ⊢; obtain ⟨n10, hN⟩ := hN
    obtain ⟨hi, hf⟩ := hP
    by_cases hil : i < L.length
    · have hH := hin _ (gC_mem hil)
      have hixe := idx_b (w := w) (h := h) (by omega) hH
      have hge := outI_get (d := d) hH
      have hfs := fold_snoc (f := dmin1 d) (-1) (gC_get hil)
      rw [← hf] at hfs
      repeat' first | ((with_reducible apply WR.c_s (f := 48) (fn := Code.f48)); exact rfl; exact rfl; exact rfl; (first | exact rfl); (focus ((repeat' first | exact args_nil | apply args_d | exact toD_d rfl | exact rfl); done)); exact index_gives' (by assumption) _ _ (by omega) (by omega)) | ((with_reducible apply WR.mv); exact rfl; exact rfl) | ((with_reducible apply WR.ld); exact rfl; exact rfl; exact rfl; (first | exact ld2 | exact loadC_all (IsLawn.len (by assumption)) | exact ldC (by first | omega) | exact ldR (by omega))) | ((with_reducible apply WR.off); exact rfl) | ((with_reducible apply WR.lss); exact rfl; exact rfl; exact rfl) | ((with_reducible apply WR.nil)) | (with_reducible refine andThen_n ?_) | (with_reducible refine inB_n ?_) | (with_reducible refine W.seq ?_) | (with_reducible refine W.region ?_) | (with_reducible refine W.skip ?_) | (with_reducible refine W.block ?_) | ((with_reducible apply W.condT); exact rfl) | ((with_reducible apply W.condF); exact rfl) | (intro hb; try (exfalso; omega)) | ((with_reducible apply WR.isn); exact rfl; exact rfl; exact rfl; omega) | ((with_reducible apply WR.is); exact rfl; exact rfl; exact rfl; omega) | ((with_reducible apply WR.pk); exact rfl; exact rfl) | ((with_reducible apply WR.geq); exact rfl; exact rfl; exact rfl) | ((with_reducible apply WR.ad); exact rfl; exact rfl; exact rfl; (first | exact i64_in _ (by omega) | assumption)) | ((with_reducible apply WR.al); exact rfl; (first | exact rfl | assumption)) | ((with_reducible apply WR.st); exact rfl; exact rfl; exact rfl; exact st2)
      all_goals first
        | (replace hfs := hfs.trans (dmin1_yes (by simp only [ix]; omega))
           (refine W.nxt (i + 1, outI w d ((gC L i).2 * w + (gC L i).1).toNat) (by first | omega | (dsimp only; omega)) ?_ ⟨rfl, rfl, trivial⟩ trivial ⟨rfl, rfl, rfl, rfl, trivial⟩ ⟨rfl, rfl, rfl, trivial⟩ ⟨(by (repeat' first | exact rfl | assumption | (with_reducible apply noPar_set) | ((with_reducible apply noPar_puto); exact rfl) | (with_reducible apply noPar_put) | (with_reducible apply noPar_putv) | (with_reducible apply noPar_kill) | ((with_reducible apply noPar_mix); exact rfl) | ((with_reducible apply noPar_mixT); exact rfl)); done), trivial⟩); (try dsimp only)
           exact ⟨by omega, by rw [hfs, hge]⟩)
        | (replace hfs := hfs.trans (dmin1_no (by simp only [ix]; omega))
           (refine W.nxt (i + 1, s) (by first | omega | (dsimp only; omega)) ?_ ⟨rfl, rfl, trivial⟩ trivial ⟨rfl, rfl, rfl, rfl, trivial⟩ ⟨rfl, rfl, rfl, trivial⟩ ⟨(by (repeat' first | exact rfl | assumption | (with_reducible apply noPar_set) | ((with_reducible apply noPar_puto); exact rfl) | (with_reducible apply noPar_put) | (with_reducible apply noPar_putv) | (with_reducible apply noPar_kill) | ((with_reducible apply noPar_mix); exact rfl) | ((with_reducible apply noPar_mixT); exact rfl)); done), trivial⟩); (try dsimp only)
           exact ⟨by omega, hfs.symm⟩)
    · rw [show L.take i = L from List.take_of_length_le (by omega)] at hf
      rw [← hf]
      repeat' first | ((with_reducible apply WR.mv); exact rfl; exact rfl) | ((with_reducible apply WR.lss); exact rfl; exact rfl; exact rfl) | ((with_reducible apply WR.nil)) | (with_reducible refine andThen_n ?_) | (with_reducible refine andThen_x ?_) | (with_reducible refine inB_x ?_) | (with_reducible refine W.seq ?_) | (with_reducible refine W.region ?_) | (with_reducible refine W.ret ?_) | (with_reducible refine W.exit ?_) | ((with_reducible apply W.condF); exact rfl) | ((with_reducible apply Done.f); (intro hh hh2; exact (nomatch hh2)); (focus ((repeat' first | exact all_nil | apply all_cons | exact res_tmp rfl); done)); (focus ((repeat' first | exact all_nil | apply all_cons | exact retOf_s rfl); done)); exact rfl; (focus ((repeat' first | exact outs_nil | apply outs_d); done))) | (intro hb; try (exfalso; omega))
      all_goals rfl
  · rw [if_neg h0]
    refine Gives.by rfl rfl (W.seq ?_)
    repeat' first | ((with_reducible apply WR.c_s (f := 45) (fn := Code.f45)); exact rfl; exact rfl; exact rfl; (first | exact rfl); (focus ((repeat' first | exact args_nil | apply args_d | exact toD_d rfl | exact toD_slC rfl rfl (by first | exact rfl) | exact all_nil | apply all_cons | exact rfl); done)); exact ho) | ((with_reducible apply WR.mv); exact rfl; exact rfl) | ((with_reducible apply WR.ld); exact rfl; exact rfl; exact rfl; (first | exact ld2 | exact loadC_all (IsLawn.len (by assumption)))) | ((with_reducible apply WR.nil)) | (with_reducible refine andThen_n ?_) | (with_reducible refine andThen_r ?_) | (with_reducible refine W.seq ?_) | (with_reducible refine W.region ?_) | (with_reducible refine W.ret ?_) | ((with_reducible apply W.condT); exact rfl) | ((with_reducible apply Done.f); (intro hh hh2; exact (nomatch hh2)); (focus ((repeat' first | exact all_nil | apply all_cons | exact res_tmp rfl | exact rfl); done)); (focus ((repeat' first | exact all_nil | apply all_cons | exact retOf_s rfl | exact rfl); done)); exact rfl; (focus ((repeat' first | exact outs_nil | apply outs_d | exact rfl); done))) | (intro hb; try (exfalso; omega)) | ((with_reducible apply WR.bx); exact rfl; exact rfl; exact (by first | exact IsLawn.len (by assumption) | exact rfl); (first | exact rfl)) | ((with_reducible apply WR.neq); exact rfl; exact rfl; exact rfl) | ((with_reducible apply WR.bs1); exact rfl; exact rfl; (first | exact rfl))
    all_goals rfl
theorem l05Grass_gives (l : IsLawn w h g cs) (c : Cel) (hx : InB c) : Gives G 42 [ar cs, ac c.1 c.2] (ri .i64 (depthC w h g c)) := by
  refine Gives.by rfl rfl (W.seq ?_)
  by_cases hL : LawnOk w h g
  · have hL1 := hL.1
    have hL2 := hL.2.1
    by_cases hH : Has w h c.1 c.2
    · have ht := l01Told_gives l true
      rw [show belowCode (LawnOk w h g) (true = true) True = 0 from belowCode_zero.2 ⟨hL, rfl, trivial⟩] at ht
      repeat' first | ((with_reducible apply WR.c_s (f := 84) (fn := Code.f84)); exact rfl; exact rfl; exact rfl; (first | exact rfl); (focus ((repeat' first | exact args_nil | apply args_d | exact toD_d rfl | exact all_nil | apply all_cons | exact rfl); done)); exact ht) | ((with_reducible apply WR.c_p (f := 50) (fn := Code.f50)); exact rfl; exact rfl; exact rfl; (first | exact rfl); (focus ((repeat' first | exact args_nil | apply args_d | exact toD_d rfl | exact all_nil | apply all_cons | exact rfl); done)); exact l01Is_gives (by assumption) _ _ (by omega)) | ((with_reducible apply WR.c_s (f := 61) (fn := Code.f61)); exact rfl; exact rfl; exact rfl; (first | exact rfl); (focus ((repeat' first | exact args_nil | apply args_d | exact toD_d rfl | exact all_nil | apply all_cons | exact rfl); done)); exact l01At_gives (by assumption) _ _ (by omega)) | ((with_reducible apply WR.mv); exact rfl; exact rfl) | ((with_reducible apply WR.nil)) | (with_reducible refine andThen_n ?_) | (with_reducible refine W.seq ?_) | (with_reducible refine W.region ?_) | (with_reducible refine W.skip ?_) | (with_reducible refine W.ret ?_) | ((with_reducible apply W.condT); exact rfl) | ((with_reducible apply W.condF); exact rfl) | ((with_reducible apply Done.f); (intro hh hh2; exact (nomatch hh2)); (focus ((repeat' first | exact all_nil | apply all_cons | exact res_tmp rfl | exact rfl); done)); (focus ((repeat' first | exact all_nil | apply all_cons | exact retOf_s rfl | exact rfl); done)); exact rfl; (focus ((repeat' first | exact outs_nil | apply outs_d | exact rfl); done))) | (intro hb; try (exfalso; omega)) | ((with_reducible apply WR.ld); exact rfl; exact rfl; exact rfl; (first | exact ld2)) | ((with_reducible apply WR.eql); exact rfl; exact rfl; exact rfl) | ((with_reducible apply WR.neq); exact rfl; exact rfl; exact rfl) | ((with_reducible apply WR.bx); exact rfl; exact rfl; exact (by first | exact rfl); (first | exact rfl)) | ((with_reducible apply WR.pk); exact rfl; exact rfl)
      all_goals first
        | (exfalso; omega)
        | exact bc4 hL hH (fun hh => absurd hh.2 (by assumption))
        | exact bc0 hL hH ⟨hH, by assumption⟩
    · have ht := l01Told_gives l false
      rw [show belowCode (LawnOk w h g) (false = true) True = 2 by simp [belowCode, hL]] at ht
      repeat' first | ((with_reducible apply WR.c_s (f := 84) (fn := Code.f84)); exact rfl; exact rfl; exact rfl; (first | exact rfl); (focus ((repeat' first | exact args_nil | apply args_d | exact toD_d rfl | exact all_nil | apply all_cons | exact rfl); done)); exact ht) | ((with_reducible apply WR.c_p (f := 50) (fn := Code.f50)); exact rfl; exact rfl; exact rfl; (first | exact rfl); (focus ((repeat' first | exact args_nil | apply args_d | exact toD_d rfl | exact all_nil | apply all_cons | exact rfl); done)); exact l01Is_gives (by assumption) _ _ (by omega)) | ((with_reducible apply WR.mv); exact rfl; exact rfl) | ((with_reducible apply WR.nil)) | (with_reducible refine andThen_n ?_) | (with_reducible refine W.seq ?_) | (with_reducible refine W.region ?_) | (with_reducible refine W.skip ?_) | (with_reducible refine W.ret ?_) | ((with_reducible apply W.condF); exact rfl) | ((with_reducible apply Done.f); (intro hh hh2; exact (nomatch hh2)); (focus ((repeat' first | exact all_nil | apply all_cons | exact res_tmp rfl | exact rfl); done)); (focus ((repeat' first | exact all_nil | apply all_cons | exact retOf_s rfl | exact rfl); done)); exact rfl; (focus ((repeat' first | exact outs_nil | apply outs_d | exact rfl); done))) | (intro hb; try (exfalso; omega)) | ((with_reducible apply WR.off); exact rfl) | ((with_reducible apply WR.ld); exact rfl; exact rfl; exact rfl; (first | exact ld2)) | ((with_reducible apply WR.eql); exact rfl; exact rfl; exact rfl) | ((with_reducible apply WR.bx); exact rfl; exact rfl; exact (by first | exact rfl); (first | exact rfl)) | ((with_reducible apply WR.pk); exact rfl; exact rfl)
      all_goals first
        | (exfalso; omega)
        | exact bc2 hL hH
  · have ht := fun b => l01Told_gives l b
    have ht2 : ∀ b : Bool, belowCode (LawnOk w h g) (b = true) True = 1 := fun b => by simp [belowCode, hL]
    simp only [ht2] at ht
    repeat' first | ((with_reducible apply WR.c_s (f := 84) (fn := Code.f84)); exact rfl; exact rfl; exact rfl; (first | exact rfl); (focus ((repeat' first | exact args_nil | apply args_d | exact toD_d rfl | exact all_nil | apply all_cons | exact rfl); done)); exact ht _) | ((with_reducible apply WR.c_p (f := 50) (fn := Code.f50)); exact rfl; exact rfl; exact rfl; (first | exact rfl); (focus ((repeat' first | exact args_nil | apply args_d | exact toD_d rfl | exact all_nil | apply all_cons | exact rfl); done)); exact l01Is_gives (by assumption) _ _ (by omega)) | ((with_reducible apply WR.mv); exact rfl; exact rfl) | ((with_reducible apply WR.nil)) | (with_reducible refine andThen_n ?_) | (with_reducible refine W.seq ?_) | (with_reducible refine W.region ?_) | (with_reducible refine W.skip ?_) | (with_reducible refine W.ret ?_) | ((with_reducible apply W.condF); exact rfl) | ((with_reducible apply Done.f); (intro hh hh2; exact (nomatch hh2)); (focus ((repeat' first | exact all_nil | apply all_cons | exact res_tmp rfl | exact rfl); done)); (focus ((repeat' first | exact all_nil | apply all_cons | exact retOf_s rfl | exact rfl); done)); exact rfl; (focus ((repeat' first | exact outs_nil | apply outs_d | exact rfl); done))) | (intro hb; try (exfalso; omega)) | ((with_reducible apply WR.off); exact rfl) | ((with_reducible apply WR.ld); exact rfl; exact rfl; exact rfl; (first | exact ld2)) | ((with_reducible apply WR.eql); exact rfl; exact rfl; exact rfl) | ((with_reducible apply WR.bx); exact rfl; exact rfl; exact (by first | exact rfl); (first | exact rfl)) | ((with_reducible apply WR.pk); exact rfl; exact rfl)
    all_goals exact bc1 hL
theorem depthOfS_gives (l : IsLawn w h g cs) (c : Cel) (hx : InB c) : Gives G 19 [aa cs, ac c.1 c.2] (depthRes w h g c) := by
  have ho := l05Grass_gives l c hx
  unfold depthRes
  by_cases h0 : depthC w h g c = 0
  · obtain ⟨hs, hg, hI⟩ := depthC_ok h0
    have hst : Gives G 43 [ar cs, ac c.1 c.2, ab true] ⟨[.agg (grid .i64 (stepsG w h g c))], []⟩ := l01Reach_gives l ⟨by omega, by omega⟩ true c.1 c.2 hI.1
    have hth := l05Border_gives l (by omega) hg true
    have hin := border_in (w := w) (h := h) (g := g) (b := true)
    have hLl := border_len (w := w) (h := h) (g := g) (b := true) ⟨by omega, by omega⟩
    rw [h0] at ho
    rw [if_pos h0, ← depth_same l h0]
    generalize border w h g true = L at hth hin hLl ⊢
    generalize stepsG w h g c = d at hst ⊢
    refine Gives.by rfl rfl (W.seq ?_)
    repeat' first | ((with_reducible apply WR.c_s (f := 42) (fn := Code.f42)); exact rfl; exact rfl; exact rfl; (first | exact rfl); (focus ((repeat' first | exact args_nil | apply args_d | exact toD_d rfl | exact toD_ptr rfl rfl | exact rfl); done)); exact ho) | ((with_reducible apply WR.c_a (f := 43) (fn := Code.f43)); exact rfl; exact rfl; exact rfl; (first | exact rfl); (focus ((repeat' first | exact args_nil | apply args_d | exact toD_d rfl | exact toD_ptr rfl rfl | exact rfl); done)); exact hst) | ((with_reducible apply WR.c_o (f := 44) (fn := Code.f44)); exact rfl; exact rfl; exact rfl; (first | exact rfl); (focus ((repeat' first | exact args_nil | apply args_d | exact toD_d rfl | exact toD_ptr rfl rfl | exact rfl); done)); exact hth; (first | exact rfl)) | ((with_reducible apply WR.mv); exact rfl; exact rfl) | ((with_reducible apply WR.nil)) | (with_reducible refine andThen_n ?_) | (with_reducible refine W.seq ?_) | (with_reducible refine W.region ?_) | (with_reducible refine W.skip ?_) | (with_reducible refine W.block ?_) | ((with_reducible apply W.condF); exact rfl) | (intro hb; try (exfalso; omega)) | ((with_reducible apply WR.bx); exact rfl; exact rfl; exact (by first | exact List.length_replicate .. | exact grid_len | exact IsLawn.len (by assumption) | exact rfl); (first | exact rfl)) | ((with_reducible apply WR.ld); exact rfl; exact rfl; exact rfl; (first | exact ld2)) | ((with_reducible apply WR.neq); exact rfl; exact rfl; exact rfl) | ((with_reducible apply WR.al); exact rfl; (first | exact rfl)) | ((with_reducible apply WR.st); exact rfl; exact rfl; exact rfl; exact storeAll (by first | exact List.length_replicate .. | exact grid_len | exact IsLawn.len (by assumption) | exact rfl) (by first | exact List.length_replicate .. | exact grid_len | exact IsLawn.len (by assumption) | exact rfl))
    (refine W.loopM [7, 8] [7, 19] [] (fun zz : (Nat) × (Int) => match zz with | (i, s) => (L.length - i : Nat)) (fun zz : (Nat) × (Int) => match zz with | (i, s) => (i ≤ L.length ∧ s = (L.take i).foldl (dmin2 d) 1000 : Prop)) (fun zz : (Nat) × (Int) => match zz with | (i, s) => [(10, .a (.d (.s (.int .i64 (i : Nat))))), (9, .a (.d (.s (.int .i64 s))))]) (fun zz : (Nat) × (Int) => match zz with | (i, s) => []) (0, 1000) (⟨by omega, rfl⟩) ⟨rfl, rfl, trivial⟩ trivial trivial ?_)
    rintro ⟨i, s⟩ σ hP hN; dsimp only [setL, putL] at hP ⊢
    obtain ⟨hi, hf⟩ := hP
    by_cases hil : i < L.length
    · have hH := hin _ (gC_mem hil)
      have hfs := fold_snoc (f := dmin2 d) 1000 (gC_get hil)
      rw [← hf] at hfs
      repeat' first | ((with_reducible apply WR.mv); exact rfl; exact rfl) | ((with_reducible apply WH.mv); exact rfl; exact rfl; exact rfl) | ((with_reducible apply WR.nil)) | (with_reducible refine andThen_n ?_) | (with_reducible refine inB_n ?_) | (with_reducible refine W.seq ?_) | (with_reducible refine W.region ?_) | (with_reducible refine W.skip ?_) | (with_reducible refine W.block ?_) | ((with_reducible apply W.condT); exact rfl) | ((with_reducible apply W.condF); exact rfl) | ((with_reducible apply WH.ld); exact rfl; exact rfl; exact rfl; (first | exact ldCx (by first | omega) | exact ldCy (by first | omega) | exact ldG (by omega)); exact rfl) | ((with_reducible apply WH.nil)) | (with_reducible refine W.draw ?_) | (intro hb; try (exfalso; omega)) | ((with_reducible apply WR.lss); exact rfl; exact rfl; exact rfl) | ((with_reducible apply WH.isn); exact rfl; exact rfl; exact rfl; omega; exact rfl) | ((with_reducible apply WH.ia); exact rfl; exact rfl; exact rfl; omega; exact rfl) | ((with_reducible apply WH.fa); exact rfl; exact rfl; exact rfl) | ((with_reducible apply WR.off); exact rfl) | ((with_reducible apply WR.geq); exact rfl; exact rfl; exact rfl) | ((with_reducible apply WR.ad); exact rfl; exact rfl; exact rfl; (first | exact i64_in _ (by omega))) | ((with_reducible apply WR.pk); exact rfl; exact rfl) | ((with_reducible apply WR.le); exact rfl; exact rfl)
      all_goals first
        | (replace hfs := hfs.trans (dmin2_yes (by simp only [ix]; omega))
           (refine W.nxt (i + 1, d (10 * (gC L i).2.toNat + (gC L i).1.toNat)) (by first | omega | (dsimp only; omega)) ?_ ⟨rfl, rfl, trivial⟩ trivial ⟨rfl, rfl, trivial⟩ ⟨rfl, rfl, trivial⟩ trivial); (try dsimp only)
           exact ⟨by omega, hfs.symm⟩)
        | (replace hfs := hfs.trans (dmin2_no (by simp only [ix]; omega))
           (refine W.nxt (i + 1, s) (by first | omega | (dsimp only; omega)) ?_ ⟨rfl, rfl, trivial⟩ trivial ⟨rfl, rfl, trivial⟩ ⟨rfl, rfl, trivial⟩ trivial); (try dsimp only)
           exact ⟨by omega, hfs.symm⟩)
    · rw [show L.take i = L from List.take_of_length_le (by omega)] at hf
      rw [← hf]
      repeat' first | ((with_reducible apply WR.mv); exact rfl; exact rfl) | ((with_reducible apply WR.nil)) | (with_reducible refine andThen_n ?_) | (with_reducible refine andThen_x ?_) | (with_reducible refine inB_x ?_) | (with_reducible refine W.seq ?_) | (with_reducible refine W.region ?_) | (with_reducible refine W.ret ?_) | (with_reducible refine W.exit ?_) | ((with_reducible apply W.condF); exact rfl) | ((with_reducible apply Done.f); (intro hh hh2; exact (nomatch hh2)); (focus ((repeat' first | exact all_nil | apply all_cons | exact res_tmp rfl); done)); (focus ((repeat' first | exact all_nil | apply all_cons | exact retOf_s rfl); done)); exact rfl; (focus ((repeat' first | exact outs_nil | apply outs_d); done))) | (intro hb; try (exfalso; omega)) | ((with_reducible apply WR.lss); exact rfl; exact rfl; exact rfl) | ((with_reducible apply WR.le); exact rfl; exact rfl)
      all_goals rfl
  · rw [if_neg h0]
    refine Gives.by rfl rfl (W.seq ?_)
    repeat' first | ((with_reducible apply WR.c_s (f := 42) (fn := Code.f42)); exact rfl; exact rfl; exact rfl; (first | exact rfl); (focus ((repeat' first | exact args_nil | apply args_d | exact toD_d rfl | exact toD_ptr rfl rfl | exact all_nil | apply all_cons | exact rfl); done)); exact ho) | ((with_reducible apply WR.mv); exact rfl; exact rfl) | ((with_reducible apply WR.nil)) | (with_reducible refine andThen_n ?_) | (with_reducible refine andThen_r ?_) | (with_reducible refine W.seq ?_) | (with_reducible refine W.region ?_) | (with_reducible refine W.ret ?_) | ((with_reducible apply W.condT); exact rfl) | ((with_reducible apply Done.f); (intro hh hh2; exact (nomatch hh2)); (focus ((repeat' first | exact all_nil | apply all_cons | exact res_tmp rfl | exact rfl); done)); (focus ((repeat' first | exact all_nil | apply all_cons | exact retOf_s rfl | exact rfl); done)); exact rfl; (focus ((repeat' first | exact outs_nil | apply outs_d | exact rfl); done))) | (intro hb; try (exfalso; omega)) | ((with_reducible apply WR.bx); exact rfl; exact rfl; exact (by first | exact IsLawn.len (by assumption) | exact rfl); (first | exact rfl)) | ((with_reducible apply WR.ld); exact rfl; exact rfl; exact rfl; (first | exact ld2)) | ((with_reducible apply WR.neq); exact rfl; exact rfl; exact rfl)
    all_goals rfl
theorem law_DepthOf (l : IsLawn w h g cs) (c : Cel) (hx : InB c) : Gives G 7 [aa cs, ac c.1 c.2] ⟨[.s (.bool true)], []⟩ := by
  have hS := depthOfS_gives l c hx
  have hI := depthOf_gives l c
  obtain ⟨x, y, hr⟩ : ∃ x y, depthRes w h g c = ⟨[.s (.int .i64 x), .s (.int .i64 y)], []⟩ := by
    unfold depthRes; split
    · exact ⟨_, _, rfl⟩
    · exact ⟨_, _, rfl⟩
  rw [hr] at hS hI
  refine Gives.by rfl rfl (W.seq ?_)
  repeat' first | ((with_reducible apply WH.c_ss (f := 19) (fn := Code.f19)); exact rfl; exact rfl; exact rfl; (first | exact rfl); (focus ((repeat' first | exact args_nil | apply args_d | exact toD_d rfl | exact all_nil | apply all_cons | exact rfl); done)); exact hS; exact rfl) | ((with_reducible apply WH.c_ss (f := 20) (fn := Code.f20)); exact rfl; exact rfl; exact rfl; (first | exact rfl); (focus ((repeat' first | exact args_nil | apply args_d | exact toD_d rfl | exact all_nil | apply all_cons | exact rfl); done)); exact hI; exact rfl) | ((with_reducible apply WH.c_a (f := 9) (fn := Code.f9)); exact rfl; exact rfl; exact rfl; (first | exact rfl); (focus ((repeat' first | exact args_nil | apply args_d | exact toD_d rfl | exact all_nil | apply all_cons | exact rfl); done)); exact toLawn_gives (by assumption); exact rfl) | ((with_reducible apply WH.c_a (f := 11) (fn := Code.f11)); exact rfl; exact rfl; exact rfl; (first | exact rfl); (focus ((repeat' first | exact args_nil | apply args_d | exact toD_d rfl | exact all_nil | apply all_cons | exact rfl); done)); exact toCell_gives _ _; exact rfl) | ((with_reducible apply WR.mv); exact rfl; exact rfl) | ((with_reducible apply WH.mv); exact rfl; exact rfl; exact rfl) | ((with_reducible apply WH.mvt); exact rfl; exact rfl; exact rfl) | ((with_reducible apply WH.ld); exact rfl; exact rfl; exact rfl; (first | exact ld2 | exact loadC_all (IsLawn.len (by assumption))); exact rfl) | ((with_reducible apply WH.ex); exact rfl; exact rfl; exact rfl) | ((with_reducible apply WR.nil)) | (with_reducible refine andThen_n ?_) | (with_reducible refine W.seq ?_) | (with_reducible refine W.region ?_) | (with_reducible refine W.skip ?_) | (with_reducible refine W.ret ?_) | ((with_reducible apply W.condF); exact rfl) | ((with_reducible apply Done.f); (intro hh hh2; exact (nomatch hh2)); (focus ((repeat' first | exact all_nil | apply all_cons | exact res_tmp rfl | exact rfl); done)); (focus ((repeat' first | exact all_nil | apply all_cons | exact retOf_s rfl | exact rfl); done)); exact rfl; (focus ((repeat' first | exact outs_nil | apply outs_d | exact rfl); done))) | ((with_reducible apply WH.nil)) | (with_reducible refine W.draw ?_) | (intro hb; try (exfalso; omega)) | ((with_reducible apply WR.neq); exact rfl; exact rfl; exact rfl) | ((with_reducible apply WR.bx); exact rfl; exact rfl; exact (by first | exact IsLawn.len (by assumption) | exact rfl); (first | exact rfl)) | ((with_reducible apply WR.pk); exact rfl; exact rfl)
  all_goals rfl
end Go.DM
