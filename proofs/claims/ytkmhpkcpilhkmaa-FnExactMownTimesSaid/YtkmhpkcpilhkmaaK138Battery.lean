/- The least battery: both sides, the statement. -/
import Derived.Test.YtkmhpkcpilhkmaaK138Steps
import Derived.Test.YtkmhpkcpilhkmaaK138Rule2
import Derived.Test.YtkmhpkcpilhkmaaK138Laws
set_option linter.unusedSimpArgs false
set_option linter.unusedVariables false
set_option maxHeartbeats 4000000
namespace Go.DM
open Go.IntWalk
variable {w h : Int} {g : Nat → Int} {cs : List S}

theorem visit_inv {ok : Cel → Prop} [DecidablePred ok] (hs : w ≤ 10 ∧ h ≤ 10) (hok : ∀ e, ok e → Has w h e.1 e.2) {c e : Cel} {s : (Nat → Int) × List Cel} (b : BInv w h s.1 (c :: s.2)) : BInv w h (visit ok c s e).1 (c :: (visit ok c s e).2) := by
  unfold visit
  split
  · rename_i hh
    have := (b.push hs (List.mem_cons_self ..) (hok e hh.1) hh.2).1
    exact this
  · exact b
theorem fold_inv {ok : Cel → Prop} [DecidablePred ok] (hs : w ≤ 10 ∧ h ≤ 10) (hok : ∀ e, ok e → Has w h e.1 e.2) {c : Cel} : ∀ (L : List Cel) {s : (Nat → Int) × List Cel}, BInv w h s.1 (c :: s.2) → BInv w h (L.foldl (visit ok c) s).1 (c :: (L.foldl (visit ok c) s).2)
  | [], s, b => b
  | e :: r, s, b => fold_inv hs hok r (visit_inv hs hok b)
theorem bfs_b {ok : Cel → Prop} [DecidablePred ok] (hs : w ≤ 10 ∧ h ≤ 10) (hok : ∀ e, ok e → Has w h e.1 e.2) : ∀ (n : Nat) {s : (Nat → Int) × List Cel}, BInv w h s.1 s.2 → ∀ k, -1 ≤ bfs ok n s k ∧ bfs ok n s k ≤ 100
  | 0, s, b, k => ⟨b.lo k, by have := b.hi k; simp only [bfs]; omega⟩
  | n + 1, (d, []), b, k => ⟨b.lo k, by have := b.hi k; simp only [bfs] at *; omega⟩
  | n + 1, (d, c :: r), b, k => by
    have h1 := fold_inv hs hok (Near c.1 c.2) (s := (d, r)) b
    exact bfs_b hs hok n ⟨h1.lo, h1.hi, fun a ha => h1.q a (List.mem_cons_of_mem _ ha), by have := h1.len; rw [List.length_cons] at this; omega⟩ k
theorem far_b {ok : Cel → Prop} [DecidablePred ok] (hs : w ≤ 10 ∧ h ≤ 10) (hok : ∀ e, ok e → Has w h e.1 e.2) {c : Cel} (hc : Has w h c.1 c.2) (k : Nat) : -1 ≤ far ok c k ∧ far ok c k ≤ 100 :=
  bfs_b hs hok 100 (BInv.first hs hc).1 k
theorem far_congr {ok ok' : Cel → Prop} [d1 : DecidablePred ok] [d2 : DecidablePred ok'] (hh : ∀ c, ok c ↔ ok' c) (c : Cel) : far ok c = far ok' c := by
  have e : ok = ok' := funext fun c => propext (hh c)
  subst e
  have : d1 = d2 := Subsingleton.elim _ _
  rw [this]
/-- Steps over open cells. -/
def steps (w h : Int) (g : Nat → Int) (c : Cel) : Nat → Int := far (okS w h g false) c
theorem steps_eq (c : Cel) : far (okP w h fun c => Opn w h g c.1 c.2) c = steps w h g c := by
  unfold steps
  refine far_congr (fun e => ?_) c
  simp only [okP, okS, Opn, ix]
  constructor
  · rintro ⟨h1, _, h2⟩; exact ⟨h1, h2.imp id fun h => ⟨trivial, h⟩⟩
  · rintro ⟨h1, h2⟩; exact ⟨h1, h1, h2.imp id fun h => h.2⟩
theorem steps_b (hs : w ≤ 10 ∧ h ≤ 10) {c : Cel} (hc : Has w h c.1 c.2) (k : Nat) : -1 ≤ steps w h g c k ∧ steps w h g c k ≤ 100 := far_b hs (fun e he => he.1) hc k
def mostD (d : Nat → Int) (L : List Cel) : Int := L.foldl (fun s c => max s (d (ix c))) 0
theorem mostD_snoc (d : Nat → Int) {L : List Cel} {i : Nat} (hi : i < L.length) : mostD d (L.take (i + 1)) = max (mostD d (L.take i)) (d (ix (gC L i))) := by
  unfold mostD; rw [fold_snoc _ (gC_get hi)]
theorem mostD_b {d : Nat → Int} (hd : ∀ k, d k ≤ 100) : ∀ (L : List Cel) (s : Int), 0 ≤ s ∧ s ≤ 100 → 0 ≤ L.foldl (fun s c => max s (d (ix c))) s ∧ L.foldl (fun s c => max s (d (ix c))) s ≤ 100
  | [], s, h => h
  | c :: r, s, h => mostD_b hd r (max s (d (ix c))) (by have := hd (ix c); omega)
theorem battery_gives (l : IsLawn w h g cs) (hs : 1 ≤ w ∧ w ≤ 10 ∧ 1 ≤ h ∧ h ≤ 10) (x y : Int) (hf : Has w h x y) :
    Gives G 38 [aa cs, ac x y] ⟨[.s (.int .i64 (2 * mostD (steps w h g (x, y)) (ofKind w h g 0))), .s (.bool (decide (∀ c ∈ ofKind w h g 0, 0 ≤ steps w h g (x, y) (ix c))))], []⟩ := by
  have hst := steps_gives l hs (holds_open l ⟨by omega, by omega⟩) (fun _ _ => trivial) x y hf
  have hth := those_gives l (by omega) (holds_grass l ⟨by omega, by omega⟩) (fun _ _ => trivial)
  have hb := fun k => steps_b (g := g) (w := w) (h := h) (c := (x, y)) ⟨by omega, by omega⟩ hf k
  have hin : ∀ c ∈ ofKind w h g 0, Has w h c.1 c.2 := fun c hc => by
    unfold ofKind at hc; rw [List.mem_filter] at hc; exact allC_mem hc.1
  have hLl : (ofKind w h g 0).length ≤ 100 := Nat.le_trans (List.length_filter_le ..) (allC_len ⟨by omega, by omega⟩)
  rw [those_grass] at hth
  rw [steps_eq] at hst
  generalize ofKind w h g 0 = L at hth hin hLl ⊢
  generalize steps w h g (x, y) = d at hst hb ⊢
  have hwh := mul_b (w := w) (h := h) (by omega)
  refine Gives.by rfl rfl (W.seq ?_)
  repeat' first | ((with_reducible apply WR.c_o (f := 46) (fn := Code.f46)); exact rfl; exact rfl; exact rfl; (first | exact rfl); (focus ((repeat' first | exact args_nil | apply args_d | exact toD_d rfl | (apply toD_clo; exact rfl) | exact all_nil | apply all_cons | exact rfl); done)); exact hst; (first | exact rfl)) | ((with_reducible apply WR.c_o (f := 31) (fn := Code.f31)); exact rfl; exact rfl; exact rfl; (first | exact rfl); (focus ((repeat' first | exact args_nil | apply args_d | exact toD_d rfl | (apply toD_clo; exact rfl) | exact all_nil | apply all_cons | exact rfl); done)); exact hth; (first | exact rfl)) | ((with_reducible apply WR.mv); exact rfl; exact rfl) | ((with_reducible apply WR.ld); exact rfl; exact rfl; exact rfl; (first | exact ld2 | exact loadC_all (IsLawn.len (by assumption)))) | ((with_reducible apply WR.nil)) | (with_reducible refine andThen_n ?_) | (with_reducible refine W.seq ?_) | (with_reducible refine W.region ?_) | (with_reducible refine W.block ?_) | ((with_reducible apply WR.bx); exact rfl; exact rfl; exact (by first | exact IsLawn.len (by assumption) | exact rfl); (first | exact rfl)) | ((with_reducible apply WR.mf); exact rfl; exact rfl) | ((with_reducible apply WR.le); exact rfl; exact rfl)
  (refine W.loopM [2, 6, 20, 21] [2, 16, 20] [10] (fun zz : (Nat) × (Int) × (Bool) => match zz with | (i, s, b) => (L.length - i : Nat)) (fun zz : (Nat) × (Int) × (Bool) => match zz with | (i, s, b) => (i ≤ L.length ∧ s = 2 * mostD d (L.take i) ∧ (b = true ↔ ∀ c ∈ L.take i, 0 ≤ d (ix c)) : Prop)) (fun zz : (Nat) × (Int) × (Bool) => match zz with | (i, s, b) => [(22, .a (.d (.s (.int .i64 (i : Nat))))), (7, .a (.d (.s (.int .i64 s)))), (8, .a (.d (.s (.bool b))))]) (fun zz : (Nat) × (Int) × (Bool) => match zz with | (i, s, b) => []) (0, 0, true) (⟨by omega, rfl, by simp⟩) ⟨rfl, rfl, rfl, trivial⟩ trivial ⟨(by (repeat' first | exact rfl | assumption | (with_reducible apply noPar_set) | ((with_reducible apply noPar_puto); exact rfl) | (with_reducible apply noPar_put) | (with_reducible apply noPar_putv) | (with_reducible apply noPar_kill) | ((with_reducible apply noPar_mix); exact rfl) | ((with_reducible apply noPar_mixT); exact rfl)); done), trivial⟩ ?_)
  rintro ⟨i, s, b⟩ σ hP hN; dsimp only [setL, putL] at hP ⊢; obtain ⟨n10, hN⟩ := hN
  obtain ⟨hi, hs1, hb1⟩ := hP
  by_cases hil : i < L.length
  · have hH := hin _ (gC_mem hil)
    have hixe := idx_b (w := w) (h := h) (by omega) hH
    have hge := outI_get (d := d) hH
    have hbe := hb (10 * (gC L i).2.toNat + (gC L i).1.toNat)
    have h2 : mostD d (L.take (i + 1)) = max (mostD d (L.take i)) (d (10 * (gC L i).2.toNat + (gC L i).1.toNat)) := mostD_snoc d hil
    have h3 := all_snoc (p := fun c => 0 ≤ d (ix c)) hil
    cases b
    all_goals
      repeat' first | ((with_reducible apply WR.c_s (f := 48) (fn := Code.f48)); exact rfl; exact rfl; exact rfl; (first | exact rfl); (focus ((repeat' first | exact args_nil | apply args_d | exact toD_d rfl | exact rfl); done)); exact index_gives' (by assumption) _ _ (by omega) (by omega)) | ((with_reducible apply WR.mv); exact rfl; exact rfl) | ((with_reducible apply WR.ld); exact rfl; exact rfl; exact rfl; (first | exact ld2 | exact loadC_all (IsLawn.len (by assumption)) | exact ldC (by first | omega) | exact ldR (by omega))) | ((with_reducible apply WR.nil)) | (with_reducible refine andThen_n ?_) | (with_reducible refine inB_n ?_) | (with_reducible refine W.seq ?_) | (with_reducible refine W.region ?_) | (with_reducible refine W.skip ?_) | (with_reducible refine W.block ?_) | ((with_reducible apply W.condT); exact rfl) | (intro hb; try (exfalso; omega)) | ((with_reducible apply WR.isn); exact rfl; exact rfl; exact rfl; omega) | ((with_reducible apply WR.is); exact rfl; exact rfl; exact rfl; omega) | ((with_reducible apply WR.off); exact rfl) | ((with_reducible apply WR.lss); exact rfl; exact rfl; exact rfl) | ((with_reducible apply WR.geq); exact rfl; exact rfl; exact rfl) | ((with_reducible apply WR.ad); exact rfl; exact rfl; exact rfl; (first | exact i64_in _ (by omega) | assumption)) | ((with_reducible apply WR.ml); exact rfl; exact rfl; exact rfl; (first | exact i64_in _ (by omega) | assumption)) | ((with_reducible apply WR.mx); exact rfl; exact rfl; exact rfl) | ((with_reducible apply WR.pk); exact rfl; exact rfl) | ((with_reducible apply WR.al); exact rfl; (first | exact rfl | assumption)) | ((with_reducible apply WR.st); exact rfl; exact rfl; exact rfl; exact st2)
    all_goals first
      | ((refine W.nxt (i + 1, max s (2 * outI w d ((gC L i).2 * w + (gC L i).1).toNat), true) (by first | omega | (dsimp only; omega)) ?_ ⟨rfl, rfl, rfl, trivial⟩ trivial ⟨rfl, rfl, rfl, rfl, trivial⟩ ⟨rfl, rfl, rfl, trivial⟩ ⟨(by (repeat' first | exact rfl | assumption | (with_reducible apply noPar_set) | ((with_reducible apply noPar_puto); exact rfl) | (with_reducible apply noPar_put) | (with_reducible apply noPar_putv) | (with_reducible apply noPar_kill) | ((with_reducible apply noPar_mix); exact rfl) | ((with_reducible apply noPar_mixT); exact rfl)); done), trivial⟩); (try dsimp only)
         refine ⟨by omega, by omega, ?_⟩
         exact bstep_t hb1 h3 rfl (by simp only [ix]; omega))
      | ((refine W.nxt (i + 1, max s (2 * outI w d ((gC L i).2 * w + (gC L i).1).toNat), false) (by first | omega | (dsimp only; omega)) ?_ ⟨rfl, rfl, rfl, trivial⟩ trivial ⟨rfl, rfl, rfl, rfl, trivial⟩ ⟨rfl, rfl, rfl, trivial⟩ ⟨(by (repeat' first | exact rfl | assumption | (with_reducible apply noPar_set) | ((with_reducible apply noPar_puto); exact rfl) | (with_reducible apply noPar_put) | (with_reducible apply noPar_putv) | (with_reducible apply noPar_kill) | ((with_reducible apply noPar_mix); exact rfl) | ((with_reducible apply noPar_mixT); exact rfl)); done), trivial⟩); (try dsimp only)
         refine ⟨by omega, by omega, ?_⟩
         exact bstep_f hb1 h3 (by first | exact .inl rfl | exact .inr (by simp only [ix]; omega)))
  · have hil2 : L.take i = L := List.take_of_length_le (by omega)
    rw [hil2] at hb1 hs1
    cases b
    all_goals
      repeat' first | ((with_reducible apply WR.mv); exact rfl; exact rfl) | ((with_reducible apply WR.nil)) | (with_reducible refine andThen_n ?_) | (with_reducible refine andThen_x ?_) | (with_reducible refine inB_x ?_) | (with_reducible refine W.seq ?_) | (with_reducible refine W.region ?_) | (with_reducible refine W.ret ?_) | (with_reducible refine W.exit ?_) | ((with_reducible apply W.condF); exact rfl) | ((with_reducible apply Done.f); (intro hh hh2; exact (nomatch hh2)); (focus ((repeat' first | exact all_nil | apply all_cons | exact res_tmp rfl); done)); (focus ((repeat' first | exact all_nil | apply all_cons | exact retOf_s rfl); done)); exact rfl; (focus ((repeat' first | exact outs_nil | apply outs_d); done))) | (intro hb; try (exfalso; omega)) | ((with_reducible apply WR.lss); exact rfl; exact rfl; exact rfl)
    · rw [decide_eq_false (fun hh => by simpa using hb1.2 hh), hs1]; rfl
    · rw [decide_eq_true (hb1.1 rfl), hs1]; rfl
theorem l04Least_gives (l : IsLawn w h g cs) (hs : 1 ≤ w ∧ w ≤ 10 ∧ 1 ≤ h ∧ h ≤ 10) (x y : Int) (hf : Has w h x y) :
    Gives G 36 [ar cs, ac x y] ⟨[.s (.int .i64 (2 * mostD (steps w h g (x, y)) (ofKind w h g 0))), .s (.bool (decide (∀ c ∈ ofKind w h g 0, 0 ≤ steps w h g (x, y) (ix c))))], []⟩ := by
  have hst := l01Reach_gives l ⟨by omega, by omega⟩ false x y hf
  have hth := l01Cells_gives l 0 (by omega)
  have hb := fun k => steps_b (g := g) (w := w) (h := h) (c := (x, y)) ⟨by omega, by omega⟩ hf k
  have hin : ∀ c ∈ ofKind w h g 0, Has w h c.1 c.2 := fun c hc => by
    unfold ofKind at hc; rw [List.mem_filter] at hc; exact allC_mem hc.1
  have hLl : (ofKind w h g 0).length ≤ 100 := Nat.le_trans (List.length_filter_le ..) (allC_len ⟨by omega, by omega⟩)
  rw [show far (okS w h g false) (x, y) = steps w h g (x, y) from rfl] at hst
  generalize ofKind w h g 0 = L at hth hin hLl ⊢
  generalize steps w h g (x, y) = d at hst hb ⊢
  have hmb := mostD_b (d := d) (fun k => (hb k).2) L 0 (by omega)
  refine Gives.by rfl rfl (W.seq ?_)
  repeat' first | ((with_reducible apply WR.c_a (f := 43) (fn := Code.f43)); exact rfl; exact rfl; exact rfl; (first | exact rfl); (focus ((repeat' first | exact args_nil | apply args_d | exact toD_d rfl | exact rfl); done)); exact hst) | ((with_reducible apply WR.c_o (f := 29) (fn := Code.f29)); exact rfl; exact rfl; exact rfl; (first | exact rfl); (focus ((repeat' first | exact args_nil | apply args_d | exact toD_d rfl | exact rfl); done)); exact hth; (first | exact rfl)) | ((with_reducible apply WR.mv); exact rfl; exact rfl) | ((with_reducible apply WR.nil)) | (with_reducible refine andThen_n ?_) | (with_reducible refine W.seq ?_) | (with_reducible refine W.region ?_) | (with_reducible refine W.block ?_) | ((with_reducible apply WR.bx); exact rfl; exact rfl; exact (by first | exact List.length_replicate .. | exact grid_len | exact rfl); (first | exact rfl)) | ((with_reducible apply WR.ld); exact rfl; exact rfl; exact rfl; (first | exact ld2)) | ((with_reducible apply WR.al); exact rfl; (first | exact rfl)) | ((with_reducible apply WR.st); exact rfl; exact rfl; exact rfl; exact storeAll (by first | exact List.length_replicate .. | exact grid_len | exact rfl) (by first | exact List.length_replicate .. | exact grid_len | exact rfl))
  (refine W.loopM [6, 7] [6, 16] [] (fun zz : (Nat) × (Int) × (Bool) => match zz with | (i, s, b) => (L.length - i : Nat)) (fun zz : (Nat) × (Int) × (Bool) => match zz with | (i, s, b) => (i ≤ L.length ∧ s = mostD d (L.take i) ∧ (b = true ↔ ∀ c ∈ L.take i, 0 ≤ d (ix c)) : Prop)) (fun zz : (Nat) × (Int) × (Bool) => match zz with | (i, s, b) => [(10, .a (.d (.s (.int .i64 (i : Nat))))), (8, .a (.d (.s (.int .i64 s)))), (9, .a (.d (.s (.bool b))))]) (fun zz : (Nat) × (Int) × (Bool) => match zz with | (i, s, b) => []) (0, 0, true) (⟨by omega, rfl, by simp⟩) ⟨rfl, rfl, rfl, trivial⟩ trivial trivial ?_)
  rintro ⟨i, s, b⟩ σ hP hN; dsimp only [setL, putL] at hP ⊢
  obtain ⟨hi, hs1, hb1⟩ := hP
  by_cases hil : i < L.length
  · have hH := hin _ (gC_mem hil)
    have h2 : mostD d (L.take (i + 1)) = max (mostD d (L.take i)) (d (10 * (gC L i).2.toNat + (gC L i).1.toNat)) := mostD_snoc d hil
    have h3 := all_snoc (p := fun c => 0 ≤ d (ix c)) hil
    cases b
    all_goals
      repeat' first | ((with_reducible apply WR.c_s (f := 73) (fn := Code.f73)); exact rfl; exact rfl; exact rfl; (first | exact rfl); (focus ((repeat' first | exact args_nil | apply args_d | exact toD_d rfl | exact rfl); done)); exact l00Max_gives _ _) | ((with_reducible apply WR.mv); exact rfl; exact rfl) | ((with_reducible apply WH.mv); exact rfl; exact rfl; exact rfl) | ((with_reducible apply WR.nil)) | (with_reducible refine andThen_n ?_) | (with_reducible refine inB_n ?_) | (with_reducible refine W.seq ?_) | (with_reducible refine W.region ?_) | (with_reducible refine W.skip ?_) | (with_reducible refine W.block ?_) | ((with_reducible apply W.condT); exact rfl) | ((with_reducible apply WH.ld); exact rfl; exact rfl; exact rfl; (first | exact ldCx (by first | omega) | exact ldCy (by first | omega) | exact ldG (by omega)); exact rfl) | ((with_reducible apply WH.nil)) | (with_reducible refine W.draw ?_) | (intro hb; try (exfalso; omega)) | ((with_reducible apply WH.isn); exact rfl; exact rfl; exact rfl; omega; exact rfl) | ((with_reducible apply WH.ia); exact rfl; exact rfl; exact rfl; omega; exact rfl) | ((with_reducible apply WH.fa); exact rfl; exact rfl; exact rfl) | ((with_reducible apply WR.off); exact rfl) | ((with_reducible apply WR.lss); exact rfl; exact rfl; exact rfl) | ((with_reducible apply WR.geq); exact rfl; exact rfl; exact rfl) | ((with_reducible apply WR.ad); exact rfl; exact rfl; exact rfl; (first | exact i64_in _ (by omega))) | ((with_reducible apply WR.pk); exact rfl; exact rfl) | ((with_reducible apply WR.le); exact rfl; exact rfl)
    all_goals first
      | ((refine W.nxt (i + 1, max s (d (10 * (gC L i).2.toNat + (gC L i).1.toNat)), true) (by first | omega | (dsimp only; omega)) ?_ ⟨rfl, rfl, rfl, trivial⟩ trivial ⟨rfl, rfl, trivial⟩ ⟨rfl, rfl, trivial⟩ trivial); (try dsimp only)
         refine ⟨by omega, by rw [h2, hs1], ?_⟩
         exact bstep_t hb1 h3 rfl (by simp only [ix]; omega))
      | ((refine W.nxt (i + 1, max s (d (10 * (gC L i).2.toNat + (gC L i).1.toNat)), false) (by first | omega | (dsimp only; omega)) ?_ ⟨rfl, rfl, rfl, trivial⟩ trivial ⟨rfl, rfl, trivial⟩ ⟨rfl, rfl, trivial⟩ trivial); (try dsimp only)
         refine ⟨by omega, by rw [h2, hs1], ?_⟩
         exact bstep_f hb1 h3 (by first | exact .inl rfl | exact .inr (by simp only [ix]; omega)))
  · have hil2 : L.take i = L := List.take_of_length_le (by omega)
    rw [hil2] at hb1 hs1
    have hmb2 : 0 ≤ s ∧ s ≤ 100 := by rw [hs1]; exact hmb
    cases b
    all_goals
      repeat' first | ((with_reducible apply WR.mv); exact rfl; exact rfl) | ((with_reducible apply WR.nil)) | (with_reducible refine andThen_n ?_) | (with_reducible refine andThen_x ?_) | (with_reducible refine inB_x ?_) | (with_reducible refine W.seq ?_) | (with_reducible refine W.region ?_) | (with_reducible refine W.ret ?_) | (with_reducible refine W.exit ?_) | ((with_reducible apply W.condF); exact rfl) | ((with_reducible apply Done.f); (intro hh hh2; exact (nomatch hh2)); (focus ((repeat' first | exact all_nil | apply all_cons | exact res_tmp rfl); done)); (focus ((repeat' first | exact all_nil | apply all_cons | exact retOf_s rfl); done)); exact rfl; (focus ((repeat' first | exact outs_nil | apply outs_d); done))) | (intro hb; try (exfalso; omega)) | ((with_reducible apply WR.lss); exact rfl; exact rfl; exact rfl) | ((with_reducible apply WR.ml); exact rfl; exact rfl; exact rfl; (first | exact i64_in _ (by omega))) | ((with_reducible apply WR.le); exact rfl; exact rfl)
    · rw [decide_eq_false (fun hh => by simpa using hb1.2 hh), hs1]; rfl
    · rw [decide_eq_true (hb1.1 rfl), hs1]; rfl

/-- The code of one cell that has to be open. -/
def openC (w h : Int) (g : Nat → Int) (c : Cel) : Int := belowCode (LawnOk w h g) (Has w h c.1 c.2) (Opn w h g c.1 c.2)
theorem openC_impl (c : Cel) : belowCode (LawnOk w h g) (∀ e ∈ ([c] : List Cel), Has w h e.1 e.2) (∀ e ∈ ([c] : List Cel), Opn w h g e.1 e.2) = openC w h g c := belowCode_congr Iff.rfl (by simp) (by simp)
theorem openC_spec (c : Cel) : belowCode (LawnOk w h g) (true = true ∧ ∀ e ∈ ([c] : List Cel), Has w h e.1 e.2) (∀ e ∈ ([c] : List Cel), Opn w h g e.1 e.2) = openC w h g c := belowCode_congr Iff.rfl (by simp) (by simp)
theorem openC_ok {c : Cel} (h0 : openC w h g c = 0) : (1 ≤ w ∧ w ≤ 10 ∧ 1 ≤ h ∧ h ≤ 10) ∧ Has w h c.1 c.2 ∧ Opn w h g c.1 c.2 := by
  obtain ⟨h1, h2, h3⟩ := belowCode_zero.1 h0
  exact ⟨⟨h1.1.1, h1.1.2, h1.2.1.1, h1.2.1.2⟩, h2, h3⟩
def batRes (w h : Int) (g : Nat → Int) (c : Cel) : Res := if openC w h g c = 0 then ⟨[.s (.int .i64 (2 * mostD (steps w h g c) (ofKind w h g 0))), .s (.int .i64 0)], []⟩ else ⟨[.s (.int .i64 0), .s (.int .i64 (openC w h g c))], []⟩
theorem leastBattery_gives (l : IsLawn w h g cs) (c : Cel) : Gives G 16 [aa cs, ac c.1 c.2] (batRes w h g c) := by
  have ho := openCode_gives l [c] (by simp)
  rw [openC_impl] at ho
  unfold batRes
  refine Gives.by rfl rfl (W.seq ?_)
  by_cases h0 : openC w h g c = 0
  · obtain ⟨hs, hH, _⟩ := openC_ok h0
    have hb := battery_gives l hs c.1 c.2 hH
    rw [if_pos h0]
    repeat' first | ((with_reducible apply WR.c_s (f := 37) (fn := Code.f37)); exact rfl; exact rfl; exact rfl; (first | exact rfl); (focus ((repeat' first | exact args_nil | apply args_d | exact toD_d rfl | exact toD_slC rfl rfl (by first | exact rfl) | exact all_nil | apply all_cons | exact rfl); done)); exact ho) | ((with_reducible apply WR.c_ss (f := 38) (fn := Code.f38)); exact rfl; exact rfl; exact rfl; (first | exact rfl); (focus ((repeat' first | exact args_nil | apply args_d | exact toD_d rfl | exact toD_slC rfl rfl (by first | exact rfl) | exact all_nil | apply all_cons | exact rfl); done)); exact battery_gives (by assumption) (by omega) _ _ (by assumption)) | ((with_reducible apply WR.mv); exact rfl; exact rfl) | ((with_reducible apply WR.mvt); exact rfl; exact rfl) | ((with_reducible apply WR.ld); exact rfl; exact rfl; exact rfl; (first | exact ld2 | exact loadC_all (IsLawn.len (by assumption)))) | ((with_reducible apply WR.nil)) | (with_reducible refine andThen_n ?_) | (with_reducible refine W.seq ?_) | (with_reducible refine W.region ?_) | (with_reducible refine W.skip ?_) | (with_reducible refine W.ret ?_) | ((with_reducible apply W.condF); exact rfl) | ((with_reducible apply Done.f); (intro hh hh2; exact (nomatch hh2)); (focus ((repeat' first | exact all_nil | apply all_cons | exact res_tmp rfl | exact rfl); done)); (focus ((repeat' first | exact all_nil | apply all_cons | exact retOf_s rfl | exact rfl); done)); exact rfl; (focus ((repeat' first | exact outs_nil | apply outs_d | exact rfl); done))) | (intro hb; try (exfalso; omega)) | ((with_reducible apply WR.bx); exact rfl; exact rfl; exact (by first | exact IsLawn.len (by assumption) | exact rfl); (first | exact rfl)) | ((with_reducible apply WR.ex); exact rfl; exact rfl) | ((with_reducible apply WR.neq); exact rfl; exact rfl; exact rfl) | ((with_reducible apply WR.bs1); exact rfl; exact rfl; (first | exact rfl))
    all_goals rfl
  · rw [if_neg h0]
    repeat' first | ((with_reducible apply WR.c_s (f := 37) (fn := Code.f37)); exact rfl; exact rfl; exact rfl; (first | exact rfl); (focus ((repeat' first | exact args_nil | apply args_d | exact toD_d rfl | exact toD_slC rfl rfl (by first | exact rfl) | exact all_nil | apply all_cons | exact rfl); done)); exact ho) | ((with_reducible apply WR.mv); exact rfl; exact rfl) | ((with_reducible apply WR.ld); exact rfl; exact rfl; exact rfl; (first | exact ld2 | exact loadC_all (IsLawn.len (by assumption)))) | ((with_reducible apply WR.nil)) | (with_reducible refine andThen_n ?_) | (with_reducible refine andThen_r ?_) | (with_reducible refine W.seq ?_) | (with_reducible refine W.region ?_) | (with_reducible refine W.ret ?_) | ((with_reducible apply W.condT); exact rfl) | ((with_reducible apply Done.f); (intro hh hh2; exact (nomatch hh2)); (focus ((repeat' first | exact all_nil | apply all_cons | exact res_tmp rfl | exact rfl); done)); (focus ((repeat' first | exact all_nil | apply all_cons | exact retOf_s rfl | exact rfl); done)); exact rfl; (focus ((repeat' first | exact outs_nil | apply outs_d | exact rfl); done))) | (intro hb; try (exfalso; omega)) | ((with_reducible apply WR.bx); exact rfl; exact rfl; exact (by first | exact IsLawn.len (by assumption) | exact rfl); (first | exact rfl)) | ((with_reducible apply WR.neq); exact rfl; exact rfl; exact rfl) | ((with_reducible apply WR.bs1); exact rfl; exact rfl; (first | exact rfl))
    all_goals rfl
theorem leastBatteryS_gives (l : IsLawn w h g cs) (c : Cel) (hx : InB c) : Gives G 15 [aa cs, ac c.1 c.2] (batRes w h g c) := by
  have ho := l04Told_gives l [c] (by simp) true (by simpa using hx)
  rw [openC_spec] at ho
  unfold batRes
  refine Gives.by rfl rfl (W.seq ?_)
  by_cases h0 : openC w h g c = 0
  · obtain ⟨hs, hH, _⟩ := openC_ok h0
    have hb := l04Least_gives l hs c.1 c.2 hH
    rw [if_pos h0]
    repeat' first | ((with_reducible apply WR.c_s (f := 35) (fn := Code.f35)); exact rfl; exact rfl; exact rfl; (first | exact rfl); (focus ((repeat' first | exact args_nil | apply args_d | exact toD_d rfl | exact toD_ptr rfl rfl | exact toD_slC rfl rfl (by first | exact rfl) | exact all_nil | apply all_cons | exact rfl); done)); exact ho) | ((with_reducible apply WR.c_ss (f := 36) (fn := Code.f36)); exact rfl; exact rfl; exact rfl; (first | exact rfl); (focus ((repeat' first | exact args_nil | apply args_d | exact toD_d rfl | exact toD_ptr rfl rfl | exact toD_slC rfl rfl (by first | exact rfl) | exact all_nil | apply all_cons | exact rfl); done)); exact l04Least_gives (by assumption) (by omega) _ _ (by assumption)) | ((with_reducible apply WR.mv); exact rfl; exact rfl) | ((with_reducible apply WR.mvt); exact rfl; exact rfl) | ((with_reducible apply WR.nil)) | (with_reducible refine andThen_n ?_) | (with_reducible refine W.seq ?_) | (with_reducible refine W.region ?_) | (with_reducible refine W.skip ?_) | (with_reducible refine W.ret ?_) | ((with_reducible apply W.condF); exact rfl) | ((with_reducible apply Done.f); (intro hh hh2; exact (nomatch hh2)); (focus ((repeat' first | exact all_nil | apply all_cons | exact res_tmp rfl | exact rfl); done)); (focus ((repeat' first | exact all_nil | apply all_cons | exact retOf_s rfl | exact rfl); done)); exact rfl; (focus ((repeat' first | exact outs_nil | apply outs_d | exact rfl); done))) | (intro hb; try (exfalso; omega)) | ((with_reducible apply WR.bx); exact rfl; exact rfl; exact (by first | exact IsLawn.len (by assumption) | exact rfl); (first | exact rfl)) | ((with_reducible apply WR.ld); exact rfl; exact rfl; exact rfl; (first | exact ld2)) | ((with_reducible apply WR.ex); exact rfl; exact rfl) | ((with_reducible apply WR.neq); exact rfl; exact rfl; exact rfl) | ((with_reducible apply WR.bs1); exact rfl; exact rfl; (first | exact rfl))
    all_goals rfl
  · rw [if_neg h0]
    repeat' first | ((with_reducible apply WR.c_s (f := 35) (fn := Code.f35)); exact rfl; exact rfl; exact rfl; (first | exact rfl); (focus ((repeat' first | exact args_nil | apply args_d | exact toD_d rfl | exact toD_ptr rfl rfl | exact toD_slC rfl rfl (by first | exact rfl) | exact all_nil | apply all_cons | exact rfl); done)); exact ho) | ((with_reducible apply WR.mv); exact rfl; exact rfl) | ((with_reducible apply WR.nil)) | (with_reducible refine andThen_n ?_) | (with_reducible refine andThen_r ?_) | (with_reducible refine W.seq ?_) | (with_reducible refine W.region ?_) | (with_reducible refine W.ret ?_) | ((with_reducible apply W.condT); exact rfl) | ((with_reducible apply Done.f); (intro hh hh2; exact (nomatch hh2)); (focus ((repeat' first | exact all_nil | apply all_cons | exact res_tmp rfl | exact rfl); done)); (focus ((repeat' first | exact all_nil | apply all_cons | exact retOf_s rfl | exact rfl); done)); exact rfl; (focus ((repeat' first | exact outs_nil | apply outs_d | exact rfl); done))) | (intro hb; try (exfalso; omega)) | ((with_reducible apply WR.bx); exact rfl; exact rfl; exact (by first | exact IsLawn.len (by assumption) | exact rfl); (first | exact rfl)) | ((with_reducible apply WR.ld); exact rfl; exact rfl; exact rfl; (first | exact ld2)) | ((with_reducible apply WR.neq); exact rfl; exact rfl; exact rfl) | ((with_reducible apply WR.bs1); exact rfl; exact rfl; (first | exact rfl))
    all_goals rfl
theorem law_LeastBattery (l : IsLawn w h g cs) (c : Cel) (hx : InB c) : Gives G 5 [aa cs, ac c.1 c.2] ⟨[.s (.bool true)], []⟩ := by
  have hS := leastBatteryS_gives l c hx
  have hI := leastBattery_gives l c
  obtain ⟨x, y, hr⟩ : ∃ x y, batRes w h g c = ⟨[.s (.int .i64 x), .s (.int .i64 y)], []⟩ := by
    unfold batRes; split
    · exact ⟨_, _, rfl⟩
    · exact ⟨_, _, rfl⟩
  rw [hr] at hS hI
  refine Gives.by rfl rfl (W.seq ?_)
  repeat' first | ((with_reducible apply WH.c_ss (f := 15) (fn := Code.f15)); exact rfl; exact rfl; exact rfl; (first | exact rfl); (focus ((repeat' first | exact args_nil | apply args_d | exact toD_d rfl | exact all_nil | apply all_cons | exact rfl); done)); exact hS; exact rfl) | ((with_reducible apply WH.c_ss (f := 16) (fn := Code.f16)); exact rfl; exact rfl; exact rfl; (first | exact rfl); (focus ((repeat' first | exact args_nil | apply args_d | exact toD_d rfl | exact all_nil | apply all_cons | exact rfl); done)); exact hI; exact rfl) | ((with_reducible apply WH.c_a (f := 9) (fn := Code.f9)); exact rfl; exact rfl; exact rfl; (first | exact rfl); (focus ((repeat' first | exact args_nil | apply args_d | exact toD_d rfl | exact all_nil | apply all_cons | exact rfl); done)); exact toLawn_gives (by assumption); exact rfl) | ((with_reducible apply WH.c_a (f := 11) (fn := Code.f11)); exact rfl; exact rfl; exact rfl; (first | exact rfl); (focus ((repeat' first | exact args_nil | apply args_d | exact toD_d rfl | exact all_nil | apply all_cons | exact rfl); done)); exact toCell_gives _ _; exact rfl) | ((with_reducible apply WR.mv); exact rfl; exact rfl) | ((with_reducible apply WH.mv); exact rfl; exact rfl; exact rfl) | ((with_reducible apply WH.mvt); exact rfl; exact rfl; exact rfl) | ((with_reducible apply WH.ld); exact rfl; exact rfl; exact rfl; (first | exact ld2 | exact loadC_all (IsLawn.len (by assumption))); exact rfl) | ((with_reducible apply WH.ex); exact rfl; exact rfl; exact rfl) | ((with_reducible apply WR.nil)) | (with_reducible refine andThen_n ?_) | (with_reducible refine W.seq ?_) | (with_reducible refine W.region ?_) | (with_reducible refine W.skip ?_) | (with_reducible refine W.ret ?_) | ((with_reducible apply W.condF); exact rfl) | ((with_reducible apply Done.f); (intro hh hh2; exact (nomatch hh2)); (focus ((repeat' first | exact all_nil | apply all_cons | exact res_tmp rfl | exact rfl); done)); (focus ((repeat' first | exact all_nil | apply all_cons | exact retOf_s rfl | exact rfl); done)); exact rfl; (focus ((repeat' first | exact outs_nil | apply outs_d | exact rfl); done))) | ((with_reducible apply WH.nil)) | (with_reducible refine W.draw ?_) | (intro hb; try (exfalso; omega)) | ((with_reducible apply WR.neq); exact rfl; exact rfl; exact rfl) | ((with_reducible apply WR.bx); exact rfl; exact rfl; exact (by first | exact IsLawn.len (by assumption) | exact rfl); (first | exact rfl)) | ((with_reducible apply WR.pk); exact rfl; exact rfl)
  all_goals rfl
end Go.DM
