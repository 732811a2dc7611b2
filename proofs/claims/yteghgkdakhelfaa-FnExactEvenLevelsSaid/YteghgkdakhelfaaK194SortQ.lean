/- slices.SortStableFunc over cells. -/
import Derived.Test.YteghgkdakhelfaaK194SortO
set_option linter.unusedSimpArgs false
set_option linter.unusedVariables false
set_option maxHeartbeats 4000000
namespace Go.DM
open Go.IntWalk
variable {key : Cel → Int} {cmp : Cel → Cel → Int}
theorem symMerge_all {z : D} (hz : CmpOk z cmp) : ∀ (n : Nat) (P A B Q : List Cel), A.length + B.length ≤ n → A ≠ [] → B ≠ [] → MergeOk key cmp A B → SymGives key z P A B Q
  | 0, P, A, B, Q, hn, hA, hB, _ => by
    have := List.length_pos_iff.2 hA; omega
  | n + 1, P, A, B, Q, hn, hA, hB, h => by
    have hA1 := List.length_pos_iff.2 hA
    have hB1 := List.length_pos_iff.2 hB
    intro L T N a m b hL hT hN h100 ha hm hb
    by_cases c1 : A.length = 1
    · obtain ⟨y, rfl⟩ : ∃ y, A = [y] := List.length_eq_one_iff.1 c1
      subst hL hT hN ha hm hb
      exact symOne_gives P B Q y z hz hB h.b h.d (fun x hx => h.c y (by simp) x hx) h.i h100
    · by_cases c2 : B.length = 1
      · obtain ⟨y, rfl⟩ : ∃ y, B = [y] := List.length_eq_one_iff.1 c2
        subst hL hT hN ha hm hb
        exact symLast_gives P A Q y z hz (by omega) h.a h.d (fun x hx => h.c x hx y (by simp)) h.i h100
      · subst ha hm hb
        exact symStep_gives hz (by omega) (by omega) h (fun P' A' B' Q' hlt hA' hB' h' => symMerge_all hz n P' A' B' Q' (by omega) hA' hB' h') hL hT hN h100 rfl rfl rfl
/-- Rows of rows: blocks that are sorted. -/
theorem Late.two {A B : List Cel} (h : Late key cmp (A ++ B)) : ∀ y ∈ A, ∀ x ∈ B, (cmp x y < 0 ↔ key x < key y) := fun y hy x hx => (List.pairwise_append.1 h).2.2 y hy x hx
/-- Two blocks side by side, each sorted, merged. -/
theorem merge_blocks {X Y : List Cel} (hD : Dis key (X ++ Y)) (hL : Late key cmp (X ++ Y)) (h9 : ∀ c ∈ X ++ Y, InC c) : MergeOk key cmp (srt key X) (srt key Y) ∧ srt key (srt key X ++ srt key Y) = srt key (X ++ Y) := by
  obtain ⟨d1, d2, d3⟩ := List.pairwise_append.1 hD
  have hd : Dis key (srt key X ++ srt key Y) := List.pairwise_append.2 ⟨(srt_srt d1).dis, (srt_srt d2).dis, fun x hx y hy => d3 x (srt_mem.1 hx) y (srt_mem.1 hy)⟩
  refine ⟨⟨srt_srt d1, srt_srt d2, hd, fun y hy x hx => hL.two y (srt_mem.1 hy) x (srt_mem.1 hx), fun c hc => h9 c ?_⟩, srt_same hd hD fun c => ?_⟩
  · rw [List.mem_append] at hc ⊢; exact hc.imp srt_mem.1 srt_mem.1
  · rw [List.mem_append, List.mem_append, srt_mem, srt_mem]
end Go.DM

/- slices.SortStableFunc over cells: the blocks, the whole. -/
set_option linter.unusedSimpArgs false
set_option linter.unusedVariables false
set_option maxHeartbeats 4000000
namespace Go.DM
open Go.IntWalk
variable {key : Cel → Int} {cmp : Cel → Cel → Int}
/-- Blocks of w cells, each sorted. -/
def BLf (key : Cel → Int) (w : Nat) : Nat → List Cel → List Cel
  | 0, _ => []
  | f + 1, X => if X.length ≤ w then srt key X else srt key (X.take w) ++ BLf key w f (X.drop w)
def BL (key : Cel → Int) (w : Nat) (X : List Cel) : List Cel := BLf key w (X.length + 1) X
theorem BLf_fuel {w : Nat} (hw : 0 < w) : ∀ (f f' : Nat) (X : List Cel), X.length < f → X.length < f' → BLf key w f X = BLf key w f' X
  | 0, _, X, h, _ => by omega
  | _, 0, X, _, h => by omega
  | f + 1, f' + 1, X, h, h' => by
    unfold BLf
    split
    · rfl
    · rename_i hl
      rw [BLf_fuel hw f f' (X.drop w) (by rw [List.length_drop]; omega) (by rw [List.length_drop]; omega)]
theorem BL_le {w : Nat} {X : List Cel} (h : X.length ≤ w) : BL key w X = srt key X := by unfold BL BLf; rw [if_pos h]
theorem BL_ge {w : Nat} (hw : 0 < w) {X : List Cel} (h : w ≤ X.length) : BL key w X = srt key (X.take w) ++ BL key w (X.drop w) := by
  by_cases he : X.length ≤ w
  · rw [BL_le he, List.take_of_length_le he, List.drop_eq_nil_of_le he]
    simp [BL, BLf, srt]
  · rw [BL, BLf, if_neg he]
    congr 1
    exact BLf_fuel hw _ _ _ (by rw [List.length_drop]; omega) (by omega)
theorem BL_len {w : Nat} (hw : 0 < w) : ∀ (n : Nat) (X : List Cel), X.length ≤ n → (BL key w X).length = X.length
  | 0, X, h => by rw [BL_le (by omega), srt_len]
  | n + 1, X, h => by
    by_cases he : X.length ≤ w
    · rw [BL_le he, srt_len]
    · rw [BL_ge hw (by omega), List.length_append, srt_len, BL_len hw n (X.drop w) (by rw [List.length_drop]; omega), List.length_take, List.length_drop]; omega
theorem insertion_at {P X Q L T : List Cel} {N : Nat} {z : D} {a b : Int} (hz : CmpOk z cmp) (hD : Dis key X) (hL : Late key cmp X) (h9 : ∀ c ∈ X, InC c) (hLe : P ++ X ++ Q = L) (hT : P ++ srt key X ++ Q = T) (hN : L.length = N) (h100 : N ≤ 100) (ha : a = (P.length : Nat)) (hb : b = ((P.length + X.length : Nat))) :
    Gives G 212 [.ms N 2 (encC L), ai .i64 a, ai .i64 b, .d z] ⟨[], [encC T]⟩ := by
  subst ha hb hLe hT hN
  exact insertion_gives P X Q z hz hD hL h9 h100
/-- What the sorted row needs. -/
structure SortOk (key : Cel → Int) (cmp : Cel → Cel → Int) (X : List Cel) : Prop where
  d : Dis key X
  l : Late key cmp X
  i : ∀ c ∈ X, InC c
theorem SortOk.cut {X : List Cel} (h : SortOk key cmp X) (w : Nat) : SortOk key cmp (X.take w) ∧ SortOk key cmp (X.drop w) :=
  ⟨⟨h.d.sublist (List.take_sublist ..), h.l.sublist (List.take_sublist ..), fun c hc => h.i c (List.mem_of_mem_take hc)⟩, ⟨h.d.sublist (List.drop_sublist ..), h.l.sublist (List.drop_sublist ..), fun c hc => h.i c (List.mem_of_mem_drop hc)⟩⟩
theorem merge_at {P X Y Q L T : List Cel} {N : Nat} {z : D} {a m b : Int} (hz : CmpOk z cmp) (h : SortOk key cmp (X ++ Y)) (hX : X ≠ []) (hY : Y ≠ []) (hLe : P ++ srt key X ++ srt key Y ++ Q = L) (hT : P ++ srt key (X ++ Y) ++ Q = T) (hN : L.length = N) (h100 : N ≤ 100)
    (ha : a = (P.length : Nat)) (hm : m = ((P.length + X.length : Nat))) (hb : b = ((P.length + X.length + Y.length : Nat))) : Gives G 213 [.ms N 2 (encC L), ai .i64 a, ai .i64 m, ai .i64 b, .d z] ⟨[], [encC T]⟩ := by
  obtain ⟨h1, h2⟩ := merge_blocks h.d h.l h.i
  have p1 := List.length_pos_iff.2 hX
  have p2 := List.length_pos_iff.2 hY
  refine symMerge_all hz _ P (srt key X) (srt key Y) Q (Nat.le_refl _) (List.length_pos_iff.1 (by rw [srt_len]; exact p1)) (List.length_pos_iff.1 (by rw [srt_len]; exact p2)) h1 L T N a m b hLe ?_ hN h100 ha (by rw [srt_len]; exact hm) (by rw [srt_len, srt_len]; exact hb)
  rw [h2]; exact hT
theorem stable_gives {X : List Cel} {z : D} (hz : CmpOk z cmp) (hX : SortOk key cmp X) (h100 : X.length ≤ 100) : Gives G 211 [.ms X.length 2 (encC X), ai .i64 (X.length : Nat), .d z] ⟨[], [encC (srt key X)]⟩ := by
  have hsl : (srt key X).length = X.length := srt_len
  generalize hXN : X.length = N at h100 hsl ⊢
  refine Gives.by rfl rfl (W.seq ?_)
  repeat' first | ((with_reducible apply WR.mv); exact rfl; exact rfl) | ((with_reducible apply WR.nil)) | (with_reducible refine andThen_n ?_) | (with_reducible refine W.seq ?_) | (with_reducible refine W.region ?_) | (with_reducible refine W.block ?_)
  (refine (?_ : W _ (Code.loop _) _ _))
  (refine W.loopM [0, 1, 2, 6] [] [] (fun zz : (Int) × (Int) × (List Cel) × (List Cel) × (List Cel) => match zz with | (x, y, m, E, Y) => (Y.length : Nat)) (fun zz : (Int) × (Int) × (List Cel) × (List Cel) × (List Cel) => match zz with | (x, y, m, E, Y) => ((x = E.length ∧ y = x + 20 ∧ E.length + Y.length = N ∧ m.length = N) ∧ m = E ++ Y ∧ E ++ BL key 20 Y = BL key 20 X ∧ SortOk key cmp Y : Prop)) (fun zz : (Int) × (Int) × (List Cel) × (List Cel) × (List Cel) => match zz with | (x, y, m, E, Y) => [(7, .a (.d (.s (.int .i64 x)))), (8, .a (.d (.s (.int .i64 y))))]) (fun zz : (Int) × (Int) × (List Cel) × (List Cel) × (List Cel) => match zz with | (x, y, m, E, Y) => [(0, .flat true (encC m))]) (0, 20, X, [], X) (⟨⟨rfl, rfl, by simp [hXN], hXN⟩, rfl, rfl, hX⟩) ⟨rfl, rfl, trivial⟩ ⟨rfl, trivial⟩ trivial ?_)
  rintro ⟨x, y, m, E, Y⟩ σ hP hN; dsimp only [setL, putL] at hP ⊢
  obtain ⟨⟨hx, hy, hl, hml⟩, hm, hE, hY⟩ := hP
  by_cases hb : 20 ≤ Y.length
  · have hTl : (E ++ srt key (Y.take 20) ++ Y.drop 20).length = N := by simp only [List.length_append, srt_len, List.length_take, List.length_drop]; omega
    have d0 : (Y.take 20).length = 20 := by rw [List.length_take]; omega
    have d1 : (E ++ srt key (Y.take 20)).length = E.length + 20 := by rw [List.length_append, srt_len, d0]
    have d2 : (Y.drop 20).length = Y.length - 20 := List.length_drop ..
    have hB := BL_ge (key := key) (w := 20) (by decide) hb
    obtain ⟨T, hT⟩ : ∃ T, E ++ srt key (Y.take 20) ++ Y.drop 20 = T := ⟨_, rfl⟩
    have hs := insertion_at (P := E) (X := Y.take 20) (Q := Y.drop 20) (L := m) (T := T) (N := N) (a := x) (b := y) hz (hY.cut 20).1.d (hY.cut 20).1.l (hY.cut 20).1.i (by rw [hm, List.append_assoc, List.take_append_drop]) hT hml h100 hx (by rw [d0]; omega)
    rw [hT] at hTl
    repeat' first | ((with_reducible apply WR.c_m (f := 212) (fn := Code.f212)); exact rfl; exact rfl; exact rfl; (focus ((repeat' first | exact args_nil | apply args_d | (apply args_s; exact rfl; exact rfl; exact (by first | (simp only [grid_len, gridB_len, encC_length, encI_length, List.length_set, List.length_append, List.length_cons, List.length_nil]; omega))) | exact toD_d rfl); done)); exact hs; (focus ((repeat' first | exact backs_no | (apply backs_s; exact rfl; exact rfl; exact (by first | (simp only [grid_len, gridB_len, encC_length, encI_length, List.length_set, List.length_append, List.length_cons, List.length_nil]; omega)); exact (by first | (simp only [grid_len, gridB_len, encC_length, encI_length, List.length_set, List.length_append, List.length_cons, List.length_nil]; omega)))); done)); dsimp only [insertAll]) | ((with_reducible apply WR.mv); exact rfl; exact rfl) | ((with_reducible apply WR.ad); exact rfl; exact rfl; exact rfl; (first | exact i64_in _ (by omega))) | ((with_reducible apply WR.nil)) | (with_reducible refine andThen_n ?_) | (with_reducible refine inB_n ?_) | (with_reducible refine W.seq ?_) | (with_reducible refine W.region ?_) | (with_reducible refine W.skip ?_) | (with_reducible refine W.block ?_) | ((with_reducible apply W.condT); exact rfl) | (intro hb; try (exfalso; omega)) | ((with_reducible apply WR.leq); exact rfl; exact rfl; exact rfl)
    all_goals try (exfalso; omega)
    (refine W.nxt ((y, y + 20, T, E ++ srt key (Y.take 20), Y.drop 20)) (by first | omega | (dsimp only; omega)) ?_ ⟨rfl, rfl, trivial⟩ ⟨rfl, trivial⟩ ⟨rfl, rfl, rfl, rfl, trivial⟩ trivial trivial); (try dsimp only)
    exact ⟨⟨by omega, rfl, by omega, hTl⟩, hT.symm, by rw [← hE, hB, List.append_assoc], (hY.cut 20).2⟩
  · obtain ⟨T, hT⟩ : ∃ T, BL key 20 X = T := ⟨_, rfl⟩
    have hBY := BL_le (key := key) (w := 20) (X := Y) (by omega)
    rw [hBY, hT] at hE
    have hTl : T.length = N := by rw [← hE, List.length_append, srt_len]; exact hl
    have hs := insertion_at (P := E) (X := Y) (Q := []) (L := m) (T := T) (N := N) (a := x) (b := (N : Nat)) hz hY.d hY.l hY.i (by rw [hm]; simp) (by rw [← hE]; simp) hml h100 hx (by omega)
    repeat' first | ((with_reducible apply WR.c_m (f := 212) (fn := Code.f212)); exact rfl; exact rfl; exact rfl; (focus ((repeat' first | exact args_nil | apply args_d | (apply args_s; exact rfl; exact rfl; exact (by first | (simp only [grid_len, gridB_len, encC_length, encI_length, List.length_set, List.length_append, List.length_cons, List.length_nil]; omega))) | exact toD_d rfl); done)); exact hs; (focus ((repeat' first | exact backs_no | (apply backs_s; exact rfl; exact rfl; exact (by first | (simp only [grid_len, gridB_len, encC_length, encI_length, List.length_set, List.length_append, List.length_cons, List.length_nil]; omega)); exact (by first | (simp only [grid_len, gridB_len, encC_length, encI_length, List.length_set, List.length_append, List.length_cons, List.length_nil]; omega)))); done)); dsimp only [insertAll]) | ((with_reducible apply WR.mv); exact rfl; exact rfl) | ((with_reducible apply WR.nil)) | (with_reducible refine andThen_n ?_) | (with_reducible refine andThen_x ?_) | (with_reducible refine inB_x ?_) | (with_reducible refine W.seq ?_) | (with_reducible refine W.region ?_) | (with_reducible refine W.exit ?_) | (with_reducible refine W.block ?_) | ((with_reducible apply W.condF); exact rfl) | (intro hb; try (exfalso; omega)) | ((with_reducible apply WR.leq); exact rfl; exact rfl; exact rfl)
    all_goals try (exfalso; omega)
    clear hs hm hE hY hx hy hl hml hBY hb
    (refine (?_ : W _ (Code.loop _) _ _))
    (refine W.loopM [0, 1, 2] [] [] (fun zz : (Int) × (Nat) × (List Cel) => match zz with | (w, V, m) => (N - V : Nat)) (fun zz : (Int) × (Nat) × (List Cel) => match zz with | (w, V, m) => ((w = V ∧ 20 ≤ V ∧ V ≤ 200 ∧ m.length = N) ∧ m = BL key V X : Prop)) (fun zz : (Int) × (Nat) × (List Cel) => match zz with | (w, V, m) => [(6, .a (.d (.s (.int .i64 w))))]) (fun zz : (Int) × (Nat) × (List Cel) => match zz with | (w, V, m) => [(0, .flat true (encC m))]) (20, 20, T) (⟨⟨rfl, by omega, by omega, hTl⟩, hT.symm⟩) ⟨rfl, trivial⟩ ⟨rfl, trivial⟩ trivial ?_)
    rintro ⟨w, V, m⟩ σ hP hN; dsimp only [setL, putL] at hP ⊢
    clear hT hTl
    obtain ⟨⟨hw, hw1, hw2, hml⟩, hm⟩ := hP
    by_cases hwn : V < N
    · repeat' first | ((with_reducible apply WR.mv); exact rfl; exact rfl) | ((with_reducible apply WR.ml); exact rfl; exact rfl; exact rfl; (first | exact i64_in _ (by omega))) | ((with_reducible apply WR.nil)) | (with_reducible refine andThen_n ?_) | (with_reducible refine W.seq ?_) | (with_reducible refine W.region ?_) | (with_reducible refine W.skip ?_) | (with_reducible refine W.block ?_) | ((with_reducible apply W.condT); exact rfl) | (intro hb; try (exfalso; omega)) | ((with_reducible apply WR.lss); exact rfl; exact rfl; exact rfl)
      (refine (?_ : W _ (Code.loop _) _ _))
      (refine W.loopM [0, 1, 2, 6] [] [] (fun zz : (Int) × (Int) × (List Cel) × (List Cel) × (List Cel) => match zz with | (x, y, m, E, Y) => (Y.length : Nat)) (fun zz : (Int) × (Int) × (List Cel) × (List Cel) × (List Cel) => match zz with | (x, y, m, E, Y) => ((x = E.length ∧ y = x + 2 * w ∧ E.length + Y.length = N ∧ m.length = N) ∧ m = E ++ BL key V Y ∧ E ++ BL key (2 * V) Y = BL key (2 * V) X ∧ SortOk key cmp Y : Prop)) (fun zz : (Int) × (Int) × (List Cel) × (List Cel) × (List Cel) => match zz with | (x, y, m, E, Y) => [(7, .a (.d (.s (.int .i64 x)))), (8, .a (.d (.s (.int .i64 y))))]) (fun zz : (Int) × (Int) × (List Cel) × (List Cel) × (List Cel) => match zz with | (x, y, m, E, Y) => [(0, .flat true (encC m))]) (0, 2 * w, m, [], X) (⟨⟨rfl, by omega, by simp [hXN], hml⟩, hm, rfl, hX⟩) ⟨rfl, rfl, trivial⟩ ⟨rfl, trivial⟩ trivial ?_)
      rintro ⟨x, y, m, E, Y⟩ σ hP hN; dsimp only [setL, putL] at hP ⊢
      clear hm hml
      obtain ⟨⟨hx, hy, hl, hml⟩, hm, hE, hY⟩ := hP
      by_cases hb : 2 * V ≤ Y.length
      · have b1 := BL_ge (key := key) (w := V) (by omega) (show V ≤ Y.length by omega)
        have b2 := BL_ge (key := key) (w := V) (by omega) (show V ≤ (Y.drop V).length by rw [List.length_drop]; omega)
        have b3 := BL_ge (key := key) (w := 2 * V) (by omega) hb
        rw [List.drop_drop] at b2
        have e3 : Y.take (2 * V) = Y.take V ++ (Y.drop V).take V := by rw [Nat.two_mul, List.take_add]
        have e4 : Y.drop (2 * V) = Y.drop (V + V) := by rw [Nat.two_mul]
        have l1 : (Y.take V).length = V := by rw [List.length_take]; omega
        have l2 : ((Y.drop V).take V).length = V := by rw [List.length_take, List.length_drop]; omega
        have l3 : (Y.drop (2 * V)).length = Y.length - 2 * V := List.length_drop ..
        have l4 : (srt key (Y.take (2 * V))).length = 2 * V := by rw [srt_len, List.length_take]; omega
        have hbl := BL_len (key := key) (w := V) (by omega) _ (Y.drop (2 * V)) (Nat.le_refl _)
        obtain ⟨T, hT⟩ : ∃ T, E ++ srt key (Y.take (2 * V)) ++ BL key V (Y.drop (2 * V)) = T := ⟨_, rfl⟩
        have hTl : T.length = N := by rw [← hT, List.length_append, List.length_append, l4, hbl, l3]; omega
        have hs := merge_at (P := E) (X := Y.take V) (Y := (Y.drop V).take V) (Q := BL key V (Y.drop (2 * V))) (L := m) (T := T) (N := N) (a := x) (m := x + w) (b := y) hz (by rw [← e3]; exact (hY.cut (2 * V)).1)
          (List.length_pos_iff.1 (by omega)) (List.length_pos_iff.1 (by omega)) (by rw [hm, b1, b2, e4]; simp) (by rw [← e3]; exact hT) hml h100 hx (by omega) (by omega)
        clear b1 b2 e3 e4
        repeat' first | ((with_reducible apply WR.c_m (f := 213) (fn := Code.f213)); exact rfl; exact rfl; exact rfl; (focus ((repeat' first | exact args_nil | apply args_d | (apply args_s; exact rfl; exact rfl; exact (by first | (simp only [grid_len, gridB_len, encC_length, encI_length, List.length_set, List.length_append, List.length_cons, List.length_nil]; omega))) | exact toD_d rfl); done)); exact hs; (focus ((repeat' first | exact backs_no | (apply backs_s; exact rfl; exact rfl; exact (by first | (simp only [grid_len, gridB_len, encC_length, encI_length, List.length_set, List.length_append, List.length_cons, List.length_nil]; omega)); exact (by first | (simp only [grid_len, gridB_len, encC_length, encI_length, List.length_set, List.length_append, List.length_cons, List.length_nil]; omega)))); done)); dsimp only [insertAll]) | ((with_reducible apply WR.mv); exact rfl; exact rfl) | ((with_reducible apply WR.ad); exact rfl; exact rfl; exact rfl; (first | exact i64_in _ (by omega))) | ((with_reducible apply WR.ml); exact rfl; exact rfl; exact rfl; (first | exact i64_in _ (by omega))) | ((with_reducible apply WR.nil)) | (with_reducible refine andThen_n ?_) | (with_reducible refine inB_n ?_) | (with_reducible refine W.seq ?_) | (with_reducible refine W.region ?_) | (with_reducible refine W.skip ?_) | (with_reducible refine W.block ?_) | ((with_reducible apply W.condT); exact rfl) | (intro hb; try (exfalso; omega)) | ((with_reducible apply WR.leq); exact rfl; exact rfl; exact rfl)
        all_goals try (exfalso; omega)
        (refine W.nxt ((y, y + 2 * w, T, E ++ srt key (Y.take (2 * V)), Y.drop (2 * V))) (by first | omega | (dsimp only; omega)) ?_ ⟨rfl, rfl, trivial⟩ ⟨rfl, trivial⟩ ⟨rfl, rfl, rfl, rfl, trivial⟩ trivial trivial); (try dsimp only)
        exact ⟨⟨by rw [List.length_append, l4]; omega, rfl, by rw [List.length_append, l4, l3]; omega, hTl⟩, hT.symm, by rw [← hE, b3, List.append_assoc], (hY.cut (2 * V)).2⟩
      · by_cases hb2 : V < Y.length
        · have b1 := BL_ge (key := key) (w := V) (by omega) (show V ≤ Y.length by omega)
          have l2 : (Y.drop V).length = Y.length - V := List.length_drop ..
          have b2 := BL_le (key := key) (w := V) (X := Y.drop V) (by omega)
          have b3 := BL_le (key := key) (w := 2 * V) (X := Y) (by omega)
          have l1 : (Y.take V).length = V := by rw [List.length_take]; omega
          have e3 : Y.take V ++ Y.drop V = Y := List.take_append_drop ..
          obtain ⟨T, hT⟩ : ∃ T, BL key (2 * V) X = T := ⟨_, rfl⟩
          have hTl : T.length = N := by rw [← hT, ← hE, b3, List.length_append, srt_len]; exact hl
          have hs := merge_at (P := E) (X := Y.take V) (Y := Y.drop V) (Q := []) (L := m) (T := T) (N := N) (a := x) (m := x + w) (b := (N : Nat)) hz (by rw [e3]; exact hY)
            (List.length_pos_iff.1 (by omega)) (List.length_pos_iff.1 (by omega)) (by rw [hm, b1, b2]; simp) (by rw [e3, ← hT, ← hE, b3]; simp) hml h100 hx (by omega) (by omega)
          clear b1 b2 b3 e3
          repeat' first | ((with_reducible apply WR.c_m (f := 213) (fn := Code.f213)); exact rfl; exact rfl; exact rfl; (focus ((repeat' first | exact args_nil | apply args_d | (apply args_s; exact rfl; exact rfl; exact (by first | (simp only [grid_len, gridB_len, encC_length, encI_length, List.length_set, List.length_append, List.length_cons, List.length_nil]; omega))) | exact toD_d rfl); done)); exact hs; (focus ((repeat' first | exact backs_no | (apply backs_s; exact rfl; exact rfl; exact (by first | (simp only [grid_len, gridB_len, encC_length, encI_length, List.length_set, List.length_append, List.length_cons, List.length_nil]; omega)); exact (by first | (simp only [grid_len, gridB_len, encC_length, encI_length, List.length_set, List.length_append, List.length_cons, List.length_nil]; omega)))); done)); dsimp only [insertAll]) | ((with_reducible apply WR.mv); exact rfl; exact rfl) | ((with_reducible apply WR.ad); exact rfl; exact rfl; exact rfl; (first | exact i64_in _ (by omega))) | ((with_reducible apply WR.ml); exact rfl; exact rfl; exact rfl; (first | exact i64_in _ (by omega))) | ((with_reducible apply WR.nil)) | (with_reducible refine andThen_n ?_) | (with_reducible refine andThen_x ?_) | (with_reducible refine inB_n ?_) | (with_reducible refine inB_x ?_) | (with_reducible refine W.seq ?_) | (with_reducible refine W.region ?_) | (with_reducible refine W.exit ?_) | ((with_reducible apply W.condT); exact rfl) | ((with_reducible apply W.condF); exact rfl) | (intro hb; try (exfalso; omega)) | ((with_reducible apply WR.lss); exact rfl; exact rfl; exact rfl) | ((with_reducible apply WR.leq); exact rfl; exact rfl; exact rfl)
          all_goals try (exfalso; omega)
          (refine W.nxt ((w * 2, 2 * V, T)) (by first | omega | (dsimp only; omega)) ?_ ⟨rfl, trivial⟩ ⟨rfl, trivial⟩ ⟨rfl, rfl, rfl, trivial⟩ trivial trivial); (try dsimp only)
          exact ⟨⟨by omega, by omega, by omega, hTl⟩, hT.symm⟩
        · have b1 := BL_le (key := key) (w := V) (X := Y) (by omega)
          have b3 := BL_le (key := key) (w := 2 * V) (X := Y) (by omega)
          have e : m = BL key (2 * V) X := by rw [hm, b1, ← hE, b3]
          repeat' first | ((with_reducible apply WR.mv); exact rfl; exact rfl) | ((with_reducible apply WR.ad); exact rfl; exact rfl; exact rfl; (first | exact i64_in _ (by omega))) | ((with_reducible apply WR.ml); exact rfl; exact rfl; exact rfl; (first | exact i64_in _ (by omega))) | ((with_reducible apply WR.nil)) | (with_reducible refine andThen_n ?_) | (with_reducible refine andThen_x ?_) | (with_reducible refine inB_n ?_) | (with_reducible refine inB_x ?_) | (with_reducible refine W.seq ?_) | (with_reducible refine W.region ?_) | (with_reducible refine W.skip ?_) | (with_reducible refine W.exit ?_) | ((with_reducible apply W.condF); exact rfl) | (intro hb; try (exfalso; omega)) | ((with_reducible apply WR.lss); exact rfl; exact rfl; exact rfl) | ((with_reducible apply WR.leq); exact rfl; exact rfl; exact rfl)
          all_goals try (exfalso; omega)
          (refine W.nxt ((w * 2, 2 * V, m)) (by first | omega | (dsimp only; omega)) ?_ ⟨rfl, trivial⟩ ⟨rfl, trivial⟩ ⟨rfl, rfl, rfl, trivial⟩ trivial trivial); (try dsimp only)
          exact ⟨⟨by omega, by omega, by omega, hml⟩, e⟩
    · have e : m = srt key X := by rw [hm, BL_le (by omega)]
      subst e
      repeat' first | ((with_reducible apply WR.mv); exact rfl; exact rfl) | ((with_reducible apply WR.nil)) | (with_reducible refine andThen_n ?_) | (with_reducible refine andThen_x ?_) | (with_reducible refine inB_x ?_) | (with_reducible refine W.seq ?_) | (with_reducible refine W.region ?_) | (with_reducible refine W.exit ?_) | ((with_reducible apply W.condF); exact rfl) | ((with_reducible apply Done.f); (intro hh hh2; exact (nomatch hh2)); (focus ((repeat' first | exact all_nil); done)); (focus ((repeat' first | exact all_nil); done)); exact rfl; (focus ((repeat' first | exact outs_nil | apply outs_d | (apply outs_ms; exact rfl; exact (by first | (simp only [grid_len, gridB_len, encC_length, encI_length, List.length_set, List.length_append, List.length_cons, List.length_nil]; omega)))); done))) | (intro hb; try (exfalso; omega)) | ((with_reducible apply WR.lss); exact rfl; exact rfl; exact rfl)
      all_goals first
        | (exfalso; omega)
        | rfl
end Go.DM
