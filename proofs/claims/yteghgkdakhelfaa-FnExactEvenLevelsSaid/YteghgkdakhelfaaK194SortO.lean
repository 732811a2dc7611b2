/- slices.SortStableFunc over cells: the merge in place, whole. -/
import Derived.Test.YteghgkdakhelfaaK194SortN
set_option linter.unusedSimpArgs false
set_option linter.unusedVariables false
set_option maxHeartbeats 4000000
namespace Go.DM
open Go.IntWalk
variable {key : Cel → Int} {cmp : Cel → Cel → Int}
/-- What a merge takes. -/
structure MergeOk (key : Cel → Int) (cmp : Cel → Cel → Int) (A B : List Cel) : Prop where
  a : Srt key A
  b : Srt key B
  d : Dis key (A ++ B)
  c : ∀ y ∈ A, ∀ x ∈ B, (cmp x y < 0 ↔ key x < key y)
  i : ∀ c ∈ A ++ B, InC c
/-- A merge, as it is called. -/
def SymGives (key : Cel → Int) (z : D) (P A B Q : List Cel) : Prop :=
  ∀ (L T : List Cel) (N : Nat) (a m b : Int), P ++ A ++ B ++ Q = L → P ++ srt key (A ++ B) ++ Q = T → L.length = N → N ≤ 100 → a = (P.length : Nat) → m = ((P.length + A.length : Nat)) → b = ((P.length + A.length + B.length : Nat)) →
    Gives G 213 [.ms N 2 (encC L), ai .i64 a, ai .i64 m, ai .i64 b, .d z] ⟨[], [encC T]⟩
theorem rotate_at {P A B Q L T : List Cel} {N : Nat} {z : D} {a m b : Int} (hA : A ≠ []) (hB : B ≠ []) (hL : P ++ A ++ B ++ Q = L) (hT : P ++ B ++ A ++ Q = T) (hN : L.length = N) (h100 : N ≤ 100)
    (ha : a = (P.length : Nat)) (hm : m = ((P.length + A.length : Nat))) (hb : b = ((P.length + A.length + B.length : Nat))) :
    Gives G 214 [.ms N 2 (encC L), ai .i64 a, ai .i64 m, ai .i64 b, .d z] ⟨[], [encC T]⟩ := by
  subst ha hm hb hL hT hN
  exact rotate_gives P A B Q z hA hB h100
theorem MergeOk.cut {A B : List Cel} (h : MergeOk key cmp A B) (s t : Nat) : MergeOk key cmp (A.take s) (B.take t) ∧ MergeOk key cmp (A.drop s) (B.drop t) := by
  obtain ⟨d1, d2, d3⟩ := List.pairwise_append.1 h.d
  refine ⟨⟨h.a.sublist (List.take_sublist ..), h.b.sublist (List.take_sublist ..), List.pairwise_append.2 ⟨d1.sublist (List.take_sublist ..), d2.sublist (List.take_sublist ..), fun x hx y hy => d3 x (List.mem_of_mem_take hx) y (List.mem_of_mem_take hy)⟩,
    fun y hy x hx => h.c y (List.mem_of_mem_take hy) x (List.mem_of_mem_take hx), fun c hc => ?_⟩,
    ⟨h.a.sublist (List.drop_sublist ..), h.b.sublist (List.drop_sublist ..), List.pairwise_append.2 ⟨d1.sublist (List.drop_sublist ..), d2.sublist (List.drop_sublist ..), fun x hx y hy => d3 x (List.mem_of_mem_drop hx) y (List.mem_of_mem_drop hy)⟩,
    fun y hy x hx => h.c y (List.mem_of_mem_drop hy) x (List.mem_of_mem_drop hx), fun c hc => ?_⟩⟩
  · rw [List.mem_append] at hc
    exact h.i c (List.mem_append.2 (hc.imp List.mem_of_mem_take List.mem_of_mem_take))
  · rw [List.mem_append] at hc
    exact h.i c (List.mem_append.2 (hc.imp List.mem_of_mem_drop List.mem_of_mem_drop))
theorem symStep_gives {P A B Q L T : List Cel} {z : D} {N : Nat} {am mm bb : Nat} (hz : CmpOk z cmp) (hA2 : 2 ≤ A.length) (hB2 : 2 ≤ B.length) (h : MergeOk key cmp A B)
    (ih : ∀ P' A' B' Q', A'.length + B'.length < A.length + B.length → A' ≠ [] → B' ≠ [] → MergeOk key cmp A' B' → SymGives key z P' A' B' Q')
    (hL0 : P ++ A ++ B ++ Q = L) (hT : P ++ srt key (A ++ B) ++ Q = T) (hN0 : L.length = N) (h100 : N ≤ 100) (ham : am = P.length) (hmm : mm = am + A.length) (hbb : bb = mm + B.length) :
    Gives G 213 [.ms N 2 (encC L), ai .i64 (am : Nat), ai .i64 (mm : Nat), ai .i64 (bb : Nat), .d z] ⟨[], [encC T]⟩ := by
  have hlen : N = am + A.length + B.length + Q.length := by rw [← hN0, ← hL0, ham]; simp only [List.length_append]
  have hTl : T.length = N := by rw [← hT, hlen, ham]; simp only [List.length_append, srt_len]; omega
  have hgA : ∀ k, k < A.length → gC L (am + k) = gC A k := fun k hk => by
    rw [← hL0, gC_app, if_pos (by simp only [List.length_append]; omega), gC_app, if_pos (by simp only [List.length_append]; omega), gC_app, if_neg (by omega)]
    congr 1; omega
  have hgB : ∀ k, k < B.length → gC L (mm + k) = gC B k := fun k hk => by
    rw [← hL0, gC_app, if_pos (by simp only [List.length_append]; omega), gC_app, if_neg (by simp only [List.length_append]; omega)]
    congr 1; simp only [List.length_append]; omega
  have hk : ∀ i j, i < A.length → j < B.length → (cmp (gC B j) (gC A i) < 0 ↔ key (gC B j) < key (gC A i)) ∧ key (gC A i) ≠ key (gC B j) ∧ InC (gC B j) ∧ InC (gC A i) := fun i j hi hj => by
    have m1 := gC_mem hi
    have m2 := gC_mem hj
    exact ⟨h.c _ m1 _ m2, (List.pairwise_append.1 h.d).2.2 _ m1 _ m2, h.i _ (List.mem_append_right _ m2), h.i _ (List.mem_append_left _ m1)⟩
  obtain ⟨H, hH⟩ : ∃ H, H = (A.length + B.length) / 2 := ⟨_, rfl⟩
  obtain ⟨s0, hs0⟩ : ∃ s0, s0 = if A.length > H then H - B.length else 0 := ⟨_, rfl⟩
  obtain ⟨e0, he0⟩ : ∃ e0, e0 = if A.length > H then H else A.length := ⟨_, rfl⟩
  have hse0 : s0 ≤ e0 ∧ e0 ≤ A.length ∧ e0 ≤ H ∧ H - s0 ≤ B.length ∧ (A.length > H → s0 = H - B.length ∧ e0 = H) ∧ (¬ A.length > H → s0 = 0 ∧ e0 = A.length) := by
    by_cases hc : A.length > H
    · rw [if_pos hc] at hs0 he0; omega
    · rw [if_neg hc] at hs0 he0; omega
  clear hs0 he0
  refine Gives.by rfl rfl (W.seq ?_)
  repeat' first | ((with_reducible apply WR.half); exact rfl; exact rfl; omega) | ((with_reducible apply WR.mv); exact rfl; exact rfl) | ((with_reducible apply WR.ad); exact rfl; exact rfl; exact rfl; (first | exact i64_in _ (by omega) | exact u64_in _ (by omega))) | ((with_reducible apply WR.cv); exact rfl; exact rfl; (first | exact i64_in _ (by omega) | exact u64_in _ (by omega))) | ((with_reducible apply WR.sb); exact rfl; exact rfl; exact rfl; (first | exact i64_in _ (by omega) | exact u64_in _ (by omega))) | ((with_reducible apply WR.nil)) | (with_reducible refine andThen_n ?_) | (with_reducible refine W.seq ?_) | (with_reducible refine W.region ?_) | (with_reducible refine W.skip ?_) | (with_reducible refine W.block ?_) | ((with_reducible apply W.condT); exact rfl) | ((with_reducible apply W.condF); exact rfl) | (intro hb; try (exfalso; omega)) | ((with_reducible apply WR.gtr); exact rfl; exact rfl; exact rfl) | ((with_reducible apply WR.eql); exact rfl; exact rfl; exact rfl)
  all_goals try (exfalso; omega)
  all_goals
    (refine (?_ : W _ (Code.loop _) _ _))
    (refine W.loopM [0, 1, 2, 3, 4, 18, 19, 22] [0] [169, 1169, 2169, 3169, 4169] (fun zz : (Int) × (Int) × (Nat) × (Nat) => match zz with | (u, v, s, e) => (e - s : Nat)) (fun zz : (Int) × (Int) × (Nat) × (Nat) => match zz with | (u, v, s, e) => ((u = ((am + s : Nat)) ∧ v = ((am + e : Nat)) ∧ s0 ≤ s ∧ s ≤ e ∧ e ≤ e0) ∧ (∀ k, s0 ≤ k → k < s → key (gC A k) < key (gC B (H - 1 - k))) ∧ (∀ k, e ≤ k → k < e0 → key (gC B (H - 1 - k)) < key (gC A k)) : Prop)) (fun zz : (Int) × (Int) × (Nat) × (Nat) => match zz with | (u, v, s, e) => [(20, .a (.d (.s (.int .i64 u)))), (21, .a (.d (.s (.int .i64 v))))]) (fun zz : (Int) × (Int) × (Nat) × (Nat) => match zz with | (u, v, s, e) => []) (_, _, s0, e0) (⟨⟨by omega, by omega, by omega, by omega, by omega⟩, fun k h1 h2 => by omega, fun k h1 h2 => by omega⟩) ⟨rfl, rfl, trivial⟩ trivial ⟨(by (repeat' first | exact rfl | assumption | (with_reducible apply noPar_set) | ((with_reducible apply noPar_puto); exact rfl) | (with_reducible apply noPar_put) | (with_reducible apply noPar_putv) | (with_reducible apply noPar_kill) | ((with_reducible apply noPar_mix); exact rfl) | ((with_reducible apply noPar_mixT); exact rfl)); done), (by (repeat' first | exact rfl | assumption | (with_reducible apply noPar_set) | ((with_reducible apply noPar_puto); exact rfl) | (with_reducible apply noPar_put) | (with_reducible apply noPar_putv) | (with_reducible apply noPar_kill) | ((with_reducible apply noPar_mix); exact rfl) | ((with_reducible apply noPar_mixT); exact rfl)); done), (by (repeat' first | exact rfl | assumption | (with_reducible apply noPar_set) | ((with_reducible apply noPar_puto); exact rfl) | (with_reducible apply noPar_put) | (with_reducible apply noPar_putv) | (with_reducible apply noPar_kill) | ((with_reducible apply noPar_mix); exact rfl) | ((with_reducible apply noPar_mixT); exact rfl)); done), (by (repeat' first | exact rfl | assumption | (with_reducible apply noPar_set) | ((with_reducible apply noPar_puto); exact rfl) | (with_reducible apply noPar_put) | (with_reducible apply noPar_putv) | (with_reducible apply noPar_kill) | ((with_reducible apply noPar_mix); exact rfl) | ((with_reducible apply noPar_mixT); exact rfl)); done), (by (repeat' first | exact rfl | assumption | (with_reducible apply noPar_set) | ((with_reducible apply noPar_puto); exact rfl) | (with_reducible apply noPar_put) | (with_reducible apply noPar_putv) | (with_reducible apply noPar_kill) | ((with_reducible apply noPar_mix); exact rfl) | ((with_reducible apply noPar_mixT); exact rfl)); done), trivial⟩ ?_)
    rintro ⟨u, v, s, e⟩ σ hP hN; dsimp only [setL, putL] at hP ⊢; obtain ⟨n169, hN⟩ := hN; obtain ⟨n1169, hN⟩ := hN; obtain ⟨n2169, hN⟩ := hN; obtain ⟨n3169, hN⟩ := hN; obtain ⟨n4169, hN⟩ := hN
    obtain ⟨⟨hu, hv, hs1, hse, hee⟩, h1, h2⟩ := hP
    by_cases hij : s < e
    · have hq : (s + e) / 2 < A.length ∧ H - 1 - (s + e) / 2 < B.length := by omega
      have hn1 : (((am : Nat) : Int) + ((bb : Nat) : Int)) / 2 = (am : Int) + H := by omega
      have hh1 : ((((am : Nat) : Int) + ((bb : Nat) : Int)) / 2 + ((mm : Nat) : Int) - 1 - (u + v) / 2).toNat = mm + (H - 1 - (s + e) / 2) := by omega
      have hh2 : ((u + v) / 2).toNat = am + (s + e) / 2 := by omega
      have hk1 : gC L ((((am : Nat) : Int) + ((bb : Nat) : Int)) / 2 + ((mm : Nat) : Int) - 1 - (u + v) / 2).toNat = gC B (H - 1 - (s + e) / 2) := by rw [hh1]; exact hgB _ hq.2
      have hk2 : gC L ((u + v) / 2).toNat = gC A ((s + e) / 2) := by rw [hh2]; exact hgA _ hq.1
      obtain ⟨c1, c2, c3, c4⟩ := hk _ _ hq.1 hq.2
      have hI1 : InC ((gC L ((((am : Nat) : Int) + ((bb : Nat) : Int)) / 2 + ((mm : Nat) : Int) - 1 - (u + v) / 2).toNat).1, (gC L ((((am : Nat) : Int) + ((bb : Nat) : Int)) / 2 + ((mm : Nat) : Int) - 1 - (u + v) / 2).toNat).2) := by show InC (gC L _); rw [hk1]; exact c3
      have hI2 : InC ((gC L ((u + v) / 2).toNat).1, (gC L ((u + v) / 2).toNat).2) := by show InC (gC L _); rw [hk2]; exact c4
      by_cases hlt : key (gC B (H - 1 - (s + e) / 2)) < key (gC A ((s + e) / 2))
      · have hc0 : cmp ((gC L ((((am : Nat) : Int) + ((bb : Nat) : Int)) / 2 + ((mm : Nat) : Int) - 1 - (u + v) / 2).toNat).1, (gC L ((((am : Nat) : Int) + ((bb : Nat) : Int)) / 2 + ((mm : Nat) : Int) - 1 - (u + v) / 2).toNat).2) ((gC L ((u + v) / 2).toNat).1, (gC L ((u + v) / 2).toNat).2) < 0 := by
          show cmp (gC L _) (gC L _) < 0
          rw [hk1, hk2]; exact c1.2 hlt
        repeat' first | ((with_reducible apply WR.half); exact rfl; exact rfl; omega) | ((with_reducible apply WH.ccmp hz); exact rfl; exact rfl; exact rfl; exact rfl; exact hI1; exact hI2) | ((with_reducible apply WR.mv); exact rfl; exact rfl) | ((with_reducible apply WH.mv); exact rfl; exact rfl; exact rfl) | ((with_reducible apply WH.is); exact rfl; exact rfl; exact rfl; omega; exact rfl) | ((with_reducible apply WR.lss); exact rfl; exact rfl; exact rfl) | ((with_reducible apply WH.ld); exact rfl; exact rfl; exact rfl; (first | exact ldC (by first | omega)); exact rfl) | ((with_reducible apply WR.ad); exact rfl; exact rfl; exact rfl; (first | exact i64_in _ (by omega) | exact u64_in _ (by omega))) | ((with_reducible apply WR.cv); exact rfl; exact rfl; (first | exact i64_in _ (by omega) | exact u64_in _ (by omega))) | ((with_reducible apply WR.nil)) | (with_reducible refine andThen_n ?_) | (with_reducible refine inB_n ?_) | (with_reducible refine W.seq ?_) | (with_reducible refine W.region ?_) | (with_reducible refine W.skip ?_) | (with_reducible refine W.block ?_) | ((with_reducible apply W.condT); exact rfl) | ((with_reducible apply W.condF); exact rfl) | ((with_reducible apply WH.lss); exact rfl; exact rfl; exact rfl) | ((with_reducible apply WH.sb); exact rfl; exact rfl; exact rfl; (first | exact i64_in _ (by omega) | exact u64_in _ (by omega))) | ((with_reducible apply WH.nil)) | (with_reducible refine W.draw ?_) | (intro hb; try (exfalso; omega)) | ((with_reducible apply WH.un); exact rfl; exact rfl; exact rfl)
        all_goals try (exfalso; omega)
        (refine W.nxt ((u, (u + v) / 2, s, (s + e) / 2)) (by first | omega | (dsimp only; omega)) ?_ ⟨rfl, rfl, trivial⟩ trivial ⟨rfl, rfl, rfl, rfl, rfl, rfl, rfl, rfl, trivial⟩ ⟨rfl, trivial⟩ ⟨(by (repeat' first | exact rfl | assumption | (with_reducible apply noPar_set) | ((with_reducible apply noPar_puto); exact rfl) | (with_reducible apply noPar_put) | (with_reducible apply noPar_putv) | (with_reducible apply noPar_kill) | ((with_reducible apply noPar_mix); exact rfl) | ((with_reducible apply noPar_mixT); exact rfl)); done), (by (repeat' first | exact rfl | assumption | (with_reducible apply noPar_set) | ((with_reducible apply noPar_puto); exact rfl) | (with_reducible apply noPar_put) | (with_reducible apply noPar_putv) | (with_reducible apply noPar_kill) | ((with_reducible apply noPar_mix); exact rfl) | ((with_reducible apply noPar_mixT); exact rfl)); done), (by (repeat' first | exact rfl | assumption | (with_reducible apply noPar_set) | ((with_reducible apply noPar_puto); exact rfl) | (with_reducible apply noPar_put) | (with_reducible apply noPar_putv) | (with_reducible apply noPar_kill) | ((with_reducible apply noPar_mix); exact rfl) | ((with_reducible apply noPar_mixT); exact rfl)); done), (by (repeat' first | exact rfl | assumption | (with_reducible apply noPar_set) | ((with_reducible apply noPar_puto); exact rfl) | (with_reducible apply noPar_put) | (with_reducible apply noPar_putv) | (with_reducible apply noPar_kill) | ((with_reducible apply noPar_mix); exact rfl) | ((with_reducible apply noPar_mixT); exact rfl)); done), (by (repeat' first | exact rfl | assumption | (with_reducible apply noPar_set) | ((with_reducible apply noPar_puto); exact rfl) | (with_reducible apply noPar_put) | (with_reducible apply noPar_putv) | (with_reducible apply noPar_kill) | ((with_reducible apply noPar_mix); exact rfl) | ((with_reducible apply noPar_mixT); exact rfl)); done), trivial⟩); (try dsimp only)
        refine ⟨⟨by omega, by omega, by omega, by omega, by omega⟩, h1, fun k hk1 hk2 => ?_⟩
        by_cases e1 : k = (s + e) / 2
        · rw [e1]; exact hlt
        · have a1 := srt_at h.a (show (s + e) / 2 < k by omega) (by omega)
          have a2 : key (gC B (H - 1 - k)) < key (gC B (H - 1 - (s + e) / 2)) := srt_at h.b (by omega) (by omega)
          omega
      · have hc0 : ¬ cmp ((gC L ((((am : Nat) : Int) + ((bb : Nat) : Int)) / 2 + ((mm : Nat) : Int) - 1 - (u + v) / 2).toNat).1, (gC L ((((am : Nat) : Int) + ((bb : Nat) : Int)) / 2 + ((mm : Nat) : Int) - 1 - (u + v) / 2).toNat).2) ((gC L ((u + v) / 2).toNat).1, (gC L ((u + v) / 2).toNat).2) < 0 := by
          show ¬ cmp (gC L _) (gC L _) < 0
          rw [hk1, hk2]; exact fun hh => hlt (c1.1 hh)
        repeat' first | ((with_reducible apply WR.half); exact rfl; exact rfl; omega) | ((with_reducible apply WH.ccmp hz); exact rfl; exact rfl; exact rfl; exact rfl; exact hI1; exact hI2) | ((with_reducible apply WR.mv); exact rfl; exact rfl) | ((with_reducible apply WH.mv); exact rfl; exact rfl; exact rfl) | ((with_reducible apply WH.is); exact rfl; exact rfl; exact rfl; omega; exact rfl) | ((with_reducible apply WR.lss); exact rfl; exact rfl; exact rfl) | ((with_reducible apply WH.ld); exact rfl; exact rfl; exact rfl; (first | exact ldC (by first | omega)); exact rfl) | ((with_reducible apply WR.ad); exact rfl; exact rfl; exact rfl; (first | exact i64_in _ (by omega) | exact u64_in _ (by omega))) | ((with_reducible apply WR.cv); exact rfl; exact rfl; (first | exact i64_in _ (by omega) | exact u64_in _ (by omega))) | ((with_reducible apply WR.nil)) | (with_reducible refine andThen_n ?_) | (with_reducible refine inB_n ?_) | (with_reducible refine W.seq ?_) | (with_reducible refine W.region ?_) | (with_reducible refine W.skip ?_) | (with_reducible refine W.block ?_) | ((with_reducible apply W.condT); exact rfl) | ((with_reducible apply WH.lss); exact rfl; exact rfl; exact rfl) | ((with_reducible apply WH.sb); exact rfl; exact rfl; exact rfl; (first | exact i64_in _ (by omega) | exact u64_in _ (by omega))) | ((with_reducible apply WH.nil)) | (with_reducible refine W.draw ?_) | (intro hb; try (exfalso; omega)) | ((with_reducible apply WH.un); exact rfl; exact rfl; exact rfl)
        all_goals try (exfalso; omega)
        (refine W.nxt (((u + v) / 2 + 1, v, (s + e) / 2 + 1, e)) (by first | omega | (dsimp only; omega)) ?_ ⟨rfl, rfl, trivial⟩ trivial ⟨rfl, rfl, rfl, rfl, rfl, rfl, rfl, rfl, trivial⟩ ⟨rfl, trivial⟩ ⟨(by (repeat' first | exact rfl | assumption | (with_reducible apply noPar_set) | ((with_reducible apply noPar_puto); exact rfl) | (with_reducible apply noPar_put) | (with_reducible apply noPar_putv) | (with_reducible apply noPar_kill) | ((with_reducible apply noPar_mix); exact rfl) | ((with_reducible apply noPar_mixT); exact rfl)); done), (by (repeat' first | exact rfl | assumption | (with_reducible apply noPar_set) | ((with_reducible apply noPar_puto); exact rfl) | (with_reducible apply noPar_put) | (with_reducible apply noPar_putv) | (with_reducible apply noPar_kill) | ((with_reducible apply noPar_mix); exact rfl) | ((with_reducible apply noPar_mixT); exact rfl)); done), (by (repeat' first | exact rfl | assumption | (with_reducible apply noPar_set) | ((with_reducible apply noPar_puto); exact rfl) | (with_reducible apply noPar_put) | (with_reducible apply noPar_putv) | (with_reducible apply noPar_kill) | ((with_reducible apply noPar_mix); exact rfl) | ((with_reducible apply noPar_mixT); exact rfl)); done), (by (repeat' first | exact rfl | assumption | (with_reducible apply noPar_set) | ((with_reducible apply noPar_puto); exact rfl) | (with_reducible apply noPar_put) | (with_reducible apply noPar_putv) | (with_reducible apply noPar_kill) | ((with_reducible apply noPar_mix); exact rfl) | ((with_reducible apply noPar_mixT); exact rfl)); done), (by (repeat' first | exact rfl | assumption | (with_reducible apply noPar_set) | ((with_reducible apply noPar_puto); exact rfl) | (with_reducible apply noPar_put) | (with_reducible apply noPar_putv) | (with_reducible apply noPar_kill) | ((with_reducible apply noPar_mix); exact rfl) | ((with_reducible apply noPar_mixT); exact rfl)); done), trivial⟩); (try dsimp only)
        refine ⟨⟨by omega, by omega, by omega, by omega, by omega⟩, fun k hk1 hk2 => ?_, h2⟩
        by_cases e1 : k = (s + e) / 2
        · rw [e1]; omega
        · have a1 := srt_at h.a (show k < (s + e) / 2 by omega) (by omega)
          have a2 : key (gC B (H - 1 - (s + e) / 2)) < key (gC B (H - 1 - k)) := srt_at h.b (by omega) (by omega)
          omega
    · obtain rfl : s = e := by omega
      have hsr := sym_srt (s := s) (e := H - s) h.a h.b h.d (by omega) (by omega) (fun p1 p2 => by
        have := h1 (s - 1) (by omega) (by omega)
        rw [show H - 1 - (s - 1) = H - s by omega] at this; exact this) (fun p1 p2 => by
        have := h2 s (by omega) (by omega)
        rw [show H - 1 - s = H - s - 1 by omega] at this; exact this)
      have hcut := h.cut s (H - s)
      have l1 : (A.take s).length = s := by rw [List.length_take]; omega
      have l2 : (B.take (H - s)).length = H - s := by rw [List.length_take]; omega
      have l3 : (A.drop s).length = A.length - s := List.length_drop ..
      have l4 : (B.drop (H - s)).length = B.length - (H - s) := List.length_drop ..
      have jA := List.take_append_drop s A
      have jB := List.take_append_drop (H - s) B
      generalize A.take s = A1 at hsr hcut l1 jA
      generalize A.drop s = A2 at hsr hcut l3 jA
      generalize B.take (H - s) = B1 at hsr hcut l2 jB
      generalize B.drop (H - s) = B2 at hsr hcut l4 jB
      obtain ⟨g1, g2⟩ := hcut
      obtain ⟨s1, s2, s3⟩ := hsr
      have hLq : L = P ++ A1 ++ A2 ++ (B1 ++ B2 ++ Q) := by rw [← hL0, ← jA, ← jB]; simp
      have hTq : T = P ++ srt key (A1 ++ B1) ++ srt key (A2 ++ B2) ++ Q := by rw [← hT, s1]; simp
      obtain ⟨L2, hL2⟩ : ∃ L2, L2 = P ++ A1 ++ B1 ++ (A2 ++ B2 ++ Q) := ⟨_, rfl⟩
      obtain ⟨L3, hL3⟩ : ∃ L3, L3 = P ++ srt key (A1 ++ B1) ++ (A2 ++ B2 ++ Q) := ⟨_, rfl⟩
      have hl2 : L2.length = N := by rw [hL2, hlen]; simp only [List.length_append]; omega
      have hl3 : L3.length = N := by rw [hL3, hlen]; simp only [List.length_append, srt_len]; omega
      have ne : ∀ {X : List Cel}, 0 < X.length → X ≠ [] := fun h e => by rw [e] at h; exact absurd h (by simp)
      have nil : ∀ {X : List Cel}, ¬ 0 < X.length → X = [] := fun h => List.eq_nil_of_length_eq_zero (by omega)
      have hmid : (((am : Nat) : Int) + ((bb : Nat) : Int)) / 2 = ((am + H : Nat) : Int) := by omega
      have hr0 : 0 < A2.length ∧ 0 < B1.length → Gives G 214 [.ms N 2 (encC L), ai .i64 u, ai .i64 (mm : Nat), ai .i64 ((((am : Nat) : Int) + ((bb : Nat) : Int)) / 2 + ((mm : Nat) : Int) - u), .d z] ⟨[], [encC L2]⟩ := fun c =>
        rotate_at (P := P ++ A1) (A := A2) (B := B1) (Q := B2 ++ Q) (ne c.1) (ne c.2) (by rw [hLq]; simp) (by rw [hL2]; simp) hN0 h100 (by rw [List.length_append]; omega) (by rw [List.length_append]; omega) (by rw [List.length_append]; omega)
      have hr1 : 0 < A1.length ∧ 0 < B1.length → Gives G 213 [.ms N 2 (encC L2), ai .i64 (am : Nat), ai .i64 u, ai .i64 ((((am : Nat) : Int) + ((bb : Nat) : Int)) / 2), .d z] ⟨[], [encC L3]⟩ := fun c =>
        ih P A1 B1 (A2 ++ B2 ++ Q) (by omega) (ne c.1) (ne c.2) g1 L2 L3 N _ _ _ hL2.symm hL3.symm hl2 h100 (by omega) (by omega) (by omega)
      have hr2 : 0 < A2.length ∧ 0 < B2.length → Gives G 213 [.ms N 2 (encC L3), ai .i64 ((((am : Nat) : Int) + ((bb : Nat) : Int)) / 2), ai .i64 ((((am : Nat) : Int) + ((bb : Nat) : Int)) / 2 + ((mm : Nat) : Int) - u), ai .i64 (bb : Nat), .d z] ⟨[], [encC T]⟩ := fun c =>
        ih (P ++ srt key (A1 ++ B1)) A2 B2 Q (by omega) (ne c.1) (ne c.2) g2 L3 T N _ _ _ (by rw [hL3]; simp) hTq.symm hl3 h100
          (by simp only [List.length_append, srt_len]; omega) (by simp only [List.length_append, srt_len]; omega) (by simp only [List.length_append, srt_len]; omega)
      have hn0 : ¬ (0 < A2.length ∧ 0 < B1.length) → L = L2 := fun c => by
        rw [hLq, hL2]
        by_cases e : 0 < A2.length
        · rw [nil (X := B1) (fun hh => c ⟨e, hh⟩)]; simp
        · rw [nil (X := A2) e]; simp
      have hn1 : ¬ (0 < A1.length ∧ 0 < B1.length) → L2 = L3 := fun c => by
        rw [hL2, hL3]
        by_cases e : 0 < A1.length
        · rw [nil (X := B1) (fun hh => c ⟨e, hh⟩), List.append_nil, List.append_nil, g1.a.self]
        · rw [nil (X := A1) e, List.nil_append, List.append_nil, g1.b.self]
      have hn2 : ¬ (0 < A2.length ∧ 0 < B2.length) → L3 = T := fun c => by
        rw [hL3, hTq]
        by_cases e : 0 < A2.length
        · rw [nil (X := B2) (fun hh => c ⟨e, hh⟩), List.append_nil, g2.a.self]; simp
        · rw [nil (X := A2) e, List.nil_append, g2.b.self]; simp
      clear h1 h2 hk hgA hgB ih hz h hA2 hB2 g1 g2 s1 s2 s3 hLq hTq hL2 hL3 hL0 hT jA jB ne nil
      by_cases c0 : 0 < A2.length ∧ 0 < B1.length
      · by_cases c1 : 0 < A1.length ∧ 0 < B1.length
        · by_cases c2 : 0 < A2.length ∧ 0 < B2.length
          · have q0 := hr0 c0
            have q1 := hr1 c1
            have q2 := hr2 c2
            clear hr0 hr1 hr2 hn0 hn1 hn2
            repeat' first | ((with_reducible apply WR.c_m (f := 214) (fn := Code.f214)); exact rfl; exact rfl; exact rfl; (focus ((repeat' first | exact args_nil | apply args_d | (apply args_s; exact rfl; exact rfl; exact (by first | (simp only [grid_len, gridB_len, encC_length, encI_length, List.length_set, List.length_append, List.length_cons, List.length_nil]; omega))) | exact toD_d rfl | exact all_nil); done)); exact q0; (focus ((repeat' first | exact backs_no | (apply backs_s; exact rfl; exact rfl; exact (by first | (simp only [grid_len, gridB_len, encC_length, encI_length, List.length_set, List.length_append, List.length_cons, List.length_nil]; omega)); exact (by first | (simp only [grid_len, gridB_len, encC_length, encI_length, List.length_set, List.length_append, List.length_cons, List.length_nil]; omega)))); done)); dsimp only [insertAll]) | ((with_reducible apply WR.c_m (f := 213) (fn := Code.f213)); exact rfl; exact rfl; exact rfl; (focus ((repeat' first | exact args_nil | apply args_d | (apply args_s; exact rfl; exact rfl; exact (by first | (simp only [grid_len, gridB_len, encC_length, encI_length, List.length_set, List.length_append, List.length_cons, List.length_nil]; omega))) | exact toD_d rfl | exact all_nil); done)); exact q1; (focus ((repeat' first | exact backs_no | (apply backs_s; exact rfl; exact rfl; exact (by first | (simp only [grid_len, gridB_len, encC_length, encI_length, List.length_set, List.length_append, List.length_cons, List.length_nil]; omega)); exact (by first | (simp only [grid_len, gridB_len, encC_length, encI_length, List.length_set, List.length_append, List.length_cons, List.length_nil]; omega)))); done)); dsimp only [insertAll]) | ((with_reducible apply WR.c_m (f := 213) (fn := Code.f213)); exact rfl; exact rfl; exact rfl; (focus ((repeat' first | exact args_nil | apply args_d | (apply args_s; exact rfl; exact rfl; exact (by first | (simp only [grid_len, gridB_len, encC_length, encI_length, List.length_set, List.length_append, List.length_cons, List.length_nil]; omega))) | exact toD_d rfl | exact all_nil); done)); exact q2; (focus ((repeat' first | exact backs_no | (apply backs_s; exact rfl; exact rfl; exact (by first | (simp only [grid_len, gridB_len, encC_length, encI_length, List.length_set, List.length_append, List.length_cons, List.length_nil]; omega)); exact (by first | (simp only [grid_len, gridB_len, encC_length, encI_length, List.length_set, List.length_append, List.length_cons, List.length_nil]; omega)))); done)); dsimp only [insertAll]) | ((with_reducible apply WR.mv); exact rfl; exact rfl) | ((with_reducible apply WR.lss); exact rfl; exact rfl; exact rfl) | ((with_reducible apply WR.sb); exact rfl; exact rfl; exact rfl; (first | exact i64_in _ (by omega))) | ((with_reducible apply WR.pk); exact rfl; exact rfl) | ((with_reducible apply WR.nil)) | (with_reducible refine andThen_n ?_) | (with_reducible refine andThen_x ?_) | (with_reducible refine inB_x ?_) | (with_reducible refine W.seq ?_) | (with_reducible refine W.region ?_) | (with_reducible refine W.exit ?_) | ((with_reducible apply W.condT); exact rfl) | ((with_reducible apply W.condF); exact rfl) | ((with_reducible apply Done.f); (intro hh hh2; exact (nomatch hh2)); (focus ((repeat' first | exact all_nil); done)); (focus ((repeat' first | exact all_nil); done)); exact rfl; (focus ((repeat' first | exact outs_nil | apply outs_d | (apply outs_ms; exact rfl; exact (by first | (simp only [grid_len, gridB_len, encC_length, encI_length, List.length_set, List.length_append, List.length_cons, List.length_nil]; omega)))); done))) | (intro hb; try (exfalso; omega))
            all_goals first
              | (exfalso; omega)
              | rfl
          · have e2 := hn2 c2
            subst e2
            have q0 := hr0 c0
            have q1 := hr1 c1
            clear hr0 hr1 hr2 hn0 hn1 hn2
            repeat' first | ((with_reducible apply WR.c_m (f := 214) (fn := Code.f214)); exact rfl; exact rfl; exact rfl; (focus ((repeat' first | exact args_nil | apply args_d | (apply args_s; exact rfl; exact rfl; exact (by first | (simp only [grid_len, gridB_len, encC_length, encI_length, List.length_set, List.length_append, List.length_cons, List.length_nil]; omega))) | exact toD_d rfl | exact all_nil); done)); exact q0; (focus ((repeat' first | exact backs_no | (apply backs_s; exact rfl; exact rfl; exact (by first | (simp only [grid_len, gridB_len, encC_length, encI_length, List.length_set, List.length_append, List.length_cons, List.length_nil]; omega)); exact (by first | (simp only [grid_len, gridB_len, encC_length, encI_length, List.length_set, List.length_append, List.length_cons, List.length_nil]; omega)))); done)); dsimp only [insertAll]) | ((with_reducible apply WR.c_m (f := 213) (fn := Code.f213)); exact rfl; exact rfl; exact rfl; (focus ((repeat' first | exact args_nil | apply args_d | (apply args_s; exact rfl; exact rfl; exact (by first | (simp only [grid_len, gridB_len, encC_length, encI_length, List.length_set, List.length_append, List.length_cons, List.length_nil]; omega))) | exact toD_d rfl | exact all_nil); done)); exact q1; (focus ((repeat' first | exact backs_no | (apply backs_s; exact rfl; exact rfl; exact (by first | (simp only [grid_len, gridB_len, encC_length, encI_length, List.length_set, List.length_append, List.length_cons, List.length_nil]; omega)); exact (by first | (simp only [grid_len, gridB_len, encC_length, encI_length, List.length_set, List.length_append, List.length_cons, List.length_nil]; omega)))); done)); dsimp only [insertAll]) | ((with_reducible apply WR.mv); exact rfl; exact rfl) | ((with_reducible apply WR.lss); exact rfl; exact rfl; exact rfl) | ((with_reducible apply WR.sb); exact rfl; exact rfl; exact rfl; (first | exact i64_in _ (by omega))) | ((with_reducible apply WR.pk); exact rfl; exact rfl) | ((with_reducible apply WR.nil)) | (with_reducible refine andThen_n ?_) | (with_reducible refine andThen_x ?_) | (with_reducible refine inB_x ?_) | (with_reducible refine W.seq ?_) | (with_reducible refine W.region ?_) | (with_reducible refine W.skip ?_) | (with_reducible refine W.exit ?_) | ((with_reducible apply W.condT); exact rfl) | ((with_reducible apply W.condF); exact rfl) | ((with_reducible apply Done.f); (intro hh hh2; exact (nomatch hh2)); (focus ((repeat' first | exact all_nil); done)); (focus ((repeat' first | exact all_nil); done)); exact rfl; (focus ((repeat' first | exact outs_nil | apply outs_d | (apply outs_ms; exact rfl; exact (by first | (simp only [grid_len, gridB_len, encC_length, encI_length, List.length_set, List.length_append, List.length_cons, List.length_nil]; omega)))); done))) | (intro hb; try (exfalso; omega))
            all_goals first
              | (exfalso; omega)
              | rfl
        · by_cases c2 : 0 < A2.length ∧ 0 < B2.length
          · have e1 := hn1 c1
            subst e1
            have q0 := hr0 c0
            have q2 := hr2 c2
            clear hr0 hr1 hr2 hn0 hn1 hn2
            repeat' first | ((with_reducible apply WR.c_m (f := 214) (fn := Code.f214)); exact rfl; exact rfl; exact rfl; (focus ((repeat' first | exact args_nil | apply args_d | (apply args_s; exact rfl; exact rfl; exact (by first | (simp only [grid_len, gridB_len, encC_length, encI_length, List.length_set, List.length_append, List.length_cons, List.length_nil]; omega))) | exact toD_d rfl | exact all_nil); done)); exact q0; (focus ((repeat' first | exact backs_no | (apply backs_s; exact rfl; exact rfl; exact (by first | (simp only [grid_len, gridB_len, encC_length, encI_length, List.length_set, List.length_append, List.length_cons, List.length_nil]; omega)); exact (by first | (simp only [grid_len, gridB_len, encC_length, encI_length, List.length_set, List.length_append, List.length_cons, List.length_nil]; omega)))); done)); dsimp only [insertAll]) | ((with_reducible apply WR.c_m (f := 213) (fn := Code.f213)); exact rfl; exact rfl; exact rfl; (focus ((repeat' first | exact args_nil | apply args_d | (apply args_s; exact rfl; exact rfl; exact (by first | (simp only [grid_len, gridB_len, encC_length, encI_length, List.length_set, List.length_append, List.length_cons, List.length_nil]; omega))) | exact toD_d rfl | exact all_nil); done)); exact q2; (focus ((repeat' first | exact backs_no | (apply backs_s; exact rfl; exact rfl; exact (by first | (simp only [grid_len, gridB_len, encC_length, encI_length, List.length_set, List.length_append, List.length_cons, List.length_nil]; omega)); exact (by first | (simp only [grid_len, gridB_len, encC_length, encI_length, List.length_set, List.length_append, List.length_cons, List.length_nil]; omega)))); done)); dsimp only [insertAll]) | ((with_reducible apply WR.mv); exact rfl; exact rfl) | ((with_reducible apply WR.lss); exact rfl; exact rfl; exact rfl) | ((with_reducible apply WR.sb); exact rfl; exact rfl; exact rfl; (first | exact i64_in _ (by omega))) | ((with_reducible apply WR.off); exact rfl) | ((with_reducible apply WR.pk); exact rfl; exact rfl) | ((with_reducible apply WR.nil)) | (with_reducible refine andThen_n ?_) | (with_reducible refine andThen_x ?_) | (with_reducible refine inB_x ?_) | (with_reducible refine W.seq ?_) | (with_reducible refine W.region ?_) | (with_reducible refine W.skip ?_) | (with_reducible refine W.exit ?_) | ((with_reducible apply W.condT); exact rfl) | ((with_reducible apply W.condF); exact rfl) | ((with_reducible apply Done.f); (intro hh hh2; exact (nomatch hh2)); (focus ((repeat' first | exact all_nil); done)); (focus ((repeat' first | exact all_nil); done)); exact rfl; (focus ((repeat' first | exact outs_nil | apply outs_d | (apply outs_ms; exact rfl; exact (by first | (simp only [grid_len, gridB_len, encC_length, encI_length, List.length_set, List.length_append, List.length_cons, List.length_nil]; omega)))); done))) | (intro hb; try (exfalso; omega))
            all_goals first
              | (exfalso; omega)
              | rfl
          · have e1 := hn1 c1
            have e2 := hn2 c2
            subst e1
            subst e2
            have q0 := hr0 c0
            clear hr0 hr1 hr2 hn0 hn1 hn2
            repeat' first | ((with_reducible apply WR.c_m (f := 214) (fn := Code.f214)); exact rfl; exact rfl; exact rfl; (focus ((repeat' first | exact args_nil | apply args_d | (apply args_s; exact rfl; exact rfl; exact (by first | (simp only [grid_len, gridB_len, encC_length, encI_length, List.length_set, List.length_append, List.length_cons, List.length_nil]; omega))) | exact toD_d rfl | exact all_nil); done)); exact q0; (focus ((repeat' first | exact backs_no | (apply backs_s; exact rfl; exact rfl; exact (by first | (simp only [grid_len, gridB_len, encC_length, encI_length, List.length_set, List.length_append, List.length_cons, List.length_nil]; omega)); exact (by first | (simp only [grid_len, gridB_len, encC_length, encI_length, List.length_set, List.length_append, List.length_cons, List.length_nil]; omega)))); done)); dsimp only [insertAll]) | ((with_reducible apply WR.mv); exact rfl; exact rfl) | ((with_reducible apply WR.lss); exact rfl; exact rfl; exact rfl) | ((with_reducible apply WR.sb); exact rfl; exact rfl; exact rfl; (first | exact i64_in _ (by omega))) | ((with_reducible apply WR.off); exact rfl) | ((with_reducible apply WR.pk); exact rfl; exact rfl) | ((with_reducible apply WR.nil)) | (with_reducible refine andThen_n ?_) | (with_reducible refine andThen_x ?_) | (with_reducible refine inB_x ?_) | (with_reducible refine W.seq ?_) | (with_reducible refine W.region ?_) | (with_reducible refine W.skip ?_) | (with_reducible refine W.exit ?_) | ((with_reducible apply W.condT); exact rfl) | ((with_reducible apply W.condF); exact rfl) | ((with_reducible apply Done.f); (intro hh hh2; exact (nomatch hh2)); (focus ((repeat' first | exact all_nil); done)); (focus ((repeat' first | exact all_nil); done)); exact rfl; (focus ((repeat' first | exact outs_nil | apply outs_d | (apply outs_ms; exact rfl; exact (by first | (simp only [grid_len, gridB_len, encC_length, encI_length, List.length_set, List.length_append, List.length_cons, List.length_nil]; omega)))); done))) | (intro hb; try (exfalso; omega))
            all_goals first
              | (exfalso; omega)
              | rfl
      · by_cases c1 : 0 < A1.length ∧ 0 < B1.length
        · by_cases c2 : 0 < A2.length ∧ 0 < B2.length
          · have e0 := hn0 c0
            subst e0
            have q1 := hr1 c1
            have q2 := hr2 c2
            clear hr0 hr1 hr2 hn0 hn1 hn2
            repeat' first | ((with_reducible apply WR.mv); exact rfl; exact rfl) | ((with_reducible apply WR.lss); exact rfl; exact rfl; exact rfl) | (with_reducible refine W.seq ?_) | (with_reducible refine W.region ?_) | (intro hb; try (exfalso; omega))
            all_goals first
              | (exfalso; omega)
              | rfl
          · have e0 := hn0 c0
            have e2 := hn2 c2
            subst e0
            subst e2
            have q1 := hr1 c1
            clear hr0 hr1 hr2 hn0 hn1 hn2
            repeat' first | ((with_reducible apply WR.c_m (f := 213) (fn := Code.f213)); exact rfl; exact rfl; exact rfl; (focus ((repeat' first | exact args_nil | apply args_d | (apply args_s; exact rfl; exact rfl; exact (by first | (simp only [grid_len, gridB_len, encC_length, encI_length, List.length_set, List.length_append, List.length_cons, List.length_nil]; omega))) | exact toD_d rfl | exact all_nil); done)); exact q1; (focus ((repeat' first | exact backs_no | (apply backs_s; exact rfl; exact rfl; exact (by first | (simp only [grid_len, gridB_len, encC_length, encI_length, List.length_set, List.length_append, List.length_cons, List.length_nil]; omega)); exact (by first | (simp only [grid_len, gridB_len, encC_length, encI_length, List.length_set, List.length_append, List.length_cons, List.length_nil]; omega)))); done)); dsimp only [insertAll]) | ((with_reducible apply WR.mv); exact rfl; exact rfl) | ((with_reducible apply WR.lss); exact rfl; exact rfl; exact rfl) | ((with_reducible apply WR.sb); exact rfl; exact rfl; exact rfl; (first | exact i64_in _ (by omega))) | ((with_reducible apply WR.off); exact rfl) | ((with_reducible apply WR.pk); exact rfl; exact rfl) | ((with_reducible apply WR.nil)) | (with_reducible refine andThen_n ?_) | (with_reducible refine andThen_x ?_) | (with_reducible refine inB_x ?_) | (with_reducible refine W.seq ?_) | (with_reducible refine W.region ?_) | (with_reducible refine W.skip ?_) | (with_reducible refine W.exit ?_) | ((with_reducible apply W.condT); exact rfl) | ((with_reducible apply W.condF); exact rfl) | ((with_reducible apply Done.f); (intro hh hh2; exact (nomatch hh2)); (focus ((repeat' first | exact all_nil); done)); (focus ((repeat' first | exact all_nil); done)); exact rfl; (focus ((repeat' first | exact outs_nil | apply outs_d | (apply outs_ms; exact rfl; exact (by first | (simp only [grid_len, gridB_len, encC_length, encI_length, List.length_set, List.length_append, List.length_cons, List.length_nil]; omega)))); done))) | (intro hb; try (exfalso; omega))
            all_goals first
              | (exfalso; omega)
              | rfl
        · by_cases c2 : 0 < A2.length ∧ 0 < B2.length
          · have e0 := hn0 c0
            have e1 := hn1 c1
            subst e0
            subst e1
            have q2 := hr2 c2
            clear hr0 hr1 hr2 hn0 hn1 hn2
            repeat' first | ((with_reducible apply WR.c_m (f := 213) (fn := Code.f213)); exact rfl; exact rfl; exact rfl; (focus ((repeat' first | exact args_nil | apply args_d | (apply args_s; exact rfl; exact rfl; exact (by first | (simp only [grid_len, gridB_len, encC_length, encI_length, List.length_set, List.length_append, List.length_cons, List.length_nil]; omega))) | exact toD_d rfl | exact all_nil); done)); exact q2; (focus ((repeat' first | exact backs_no | (apply backs_s; exact rfl; exact rfl; exact (by first | (simp only [grid_len, gridB_len, encC_length, encI_length, List.length_set, List.length_append, List.length_cons, List.length_nil]; omega)); exact (by first | (simp only [grid_len, gridB_len, encC_length, encI_length, List.length_set, List.length_append, List.length_cons, List.length_nil]; omega)))); done)); dsimp only [insertAll]) | ((with_reducible apply WR.mv); exact rfl; exact rfl) | ((with_reducible apply WR.lss); exact rfl; exact rfl; exact rfl) | ((with_reducible apply WR.sb); exact rfl; exact rfl; exact rfl; (first | exact i64_in _ (by omega))) | ((with_reducible apply WR.pk); exact rfl; exact rfl) | ((with_reducible apply WR.nil)) | (with_reducible refine andThen_n ?_) | (with_reducible refine andThen_x ?_) | (with_reducible refine inB_x ?_) | (with_reducible refine W.seq ?_) | (with_reducible refine W.region ?_) | (with_reducible refine W.skip ?_) | (with_reducible refine W.exit ?_) | ((with_reducible apply W.condT); exact rfl) | ((with_reducible apply W.condF); exact rfl) | ((with_reducible apply Done.f); (intro hh hh2; exact (nomatch hh2)); (focus ((repeat' first | exact all_nil); done)); (focus ((repeat' first | exact all_nil); done)); exact rfl; (focus ((repeat' first | exact outs_nil | apply outs_d | (apply outs_ms; exact rfl; exact (by first | (simp only [grid_len, gridB_len, encC_length, encI_length, List.length_set, List.length_append, List.length_cons, List.length_nil]; omega)))); done))) | (intro hb; try (exfalso; omega))
            all_goals first
              | (exfalso; omega)
              | rfl
          · have e0 := hn0 c0
            have e1 := hn1 c1
            have e2 := hn2 c2
            subst e0
            subst e1
            subst e2
            clear hr0 hr1 hr2 hn0 hn1 hn2
            repeat' first | ((with_reducible apply WR.mv); exact rfl; exact rfl) | ((with_reducible apply WR.lss); exact rfl; exact rfl; exact rfl) | ((with_reducible apply WR.sb); exact rfl; exact rfl; exact rfl; (first | exact i64_in _ (by omega))) | ((with_reducible apply WR.off); exact rfl) | ((with_reducible apply WR.pk); exact rfl; exact rfl) | ((with_reducible apply WR.nil)) | (with_reducible refine andThen_n ?_) | (with_reducible refine andThen_x ?_) | (with_reducible refine inB_x ?_) | (with_reducible refine W.seq ?_) | (with_reducible refine W.region ?_) | (with_reducible refine W.skip ?_) | (with_reducible refine W.exit ?_) | ((with_reducible apply W.condF); exact rfl) | ((with_reducible apply Done.f); (intro hh hh2; exact (nomatch hh2)); (focus ((repeat' first | exact all_nil); done)); (focus ((repeat' first | exact all_nil); done)); exact rfl; (focus ((repeat' first | exact outs_nil | apply outs_d | (apply outs_ms; exact rfl; exact (by first | (simp only [grid_len, gridB_len, encC_length, encI_length, List.length_set]; done)))); done))) | (intro hb; try (exfalso; omega))
            all_goals first
              | (exfalso; omega)
              | rfl
end Go.DM
