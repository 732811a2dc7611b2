/- More rules: two cells that are compared. -/
import Derived.Test.YteghgkdakhelfaaK194Rule
import Derived.Test.YteghgkdakhelfaaK194Night
import Derived.Test.YteghgkdakhelfaaK194Lawn
set_option linter.unusedSimpArgs false
set_option linter.unusedVariables false
namespace Go.DM
theorem noPar_mixT {σ σ0 : St} {o : Nat} {L LO : List Nat} (hn : has LO o = true) (h : noPar σ0 [o] = true) : noPar (mix L LO σ0 σ) [o] = true := by
  rw [noPar_one] at h ⊢
  intro cs' e
  simp only [mix, hn, cond_true] at e
  exact h _ e
section
variable {Γ : Nat → Option Fn} {dsts : Nat → Option Nat} {ops : List Oper} {Q : St → Prop} {σ : St} {d : Option Nat} {g : Option (Nat × Bool)} {l1 l2 l3 l4 : List Nat}
theorem en_q {σ : St} {a b : Opd} {x y x' y' : Int} (ha : ev σ.env a = .a (.d (.agg [.int .i8 x, .int .i8 y]))) (hb : ev σ.env b = .a (.d (.agg [.int .i8 x', .int .i8 y']))) : quiet σ (.eqa true true [.int .i8, .int .i8] a b) = some (.a (.d (.s (.bool (decide (¬ (x = x' ∧ y = y'))))))) := by
  have e : ∀ p q : Int, (p == q) = decide (p = q) := fun p q => rfl
  by_cases h1 : x = x' <;> by_cases h2 : y = y' <;> simp [quiet, ha, hb, cellsA, hasKs, hasK, eqSs, eqS, sv, e, h1, h2]
theorem WR.en {a b : Opd} {x y x' y' : Int} (hw : wanted dsts σ.env g = some true) (ha : ev σ.env a = .a (.d (.agg [.int .i8 x, .int .i8 y]))) (hb : ev σ.env b = .a (.d (.agg [.int .i8 x', .int .i8 y'])))
    (k1 : ¬ (x = x' ∧ y = y') → WR Γ dsts ops Q (set d (.a (.d (.s (.bool true)))) σ)) (k2 : x = x' ∧ y = y' → WR Γ dsts ops Q (set d (.a (.d (.s (.bool false)))) σ)) : WR Γ dsts (⟨d, .eqa true true [.int .i8, .int .i8] a b, g, l1, l2, l3, l4⟩ :: ops) Q σ := by
  by_cases h : x = x' ∧ y = y'
  · exact WR.q hw (by rw [en_q ha hb]; simp only [h, and_self, not_true, decide_false]) (k2 h)
  · exact WR.q hw (by rw [en_q ha hb]; simp only [h, not_false_eq_true, decide_true]) (k1 h)
theorem WH.en {a b : Opd} {x y x' y' : Int} (hw : wanted dsts (kill l1 (only l3 σ)).env g = some true) (ha : ev (kill l1 (only l3 σ)).env a = .a (.d (.agg [.int .i8 x, .int .i8 y]))) (hb : ev (kill l1 (only l3 σ)).env b = .a (.d (.agg [.int .i8 x', .int .i8 y'])))
    (k1 : ¬ (x = x' ∧ y = y') → WH Γ dsts ops Q (set d (.a (.d (.s (.bool true)))) σ)) (k2 : x = x' ∧ y = y' → WH Γ dsts ops Q (set d (.a (.d (.s (.bool false)))) σ)) : WH Γ dsts (⟨d, .eqa true true [.int .i8, .int .i8] a b, g, l1, l2, l3, l4⟩ :: ops) Q σ := by
  by_cases h : x = x' ∧ y = y'
  · exact WH.q hw (by rw [show veil _ σ = kill l1 (only l3 σ) from rfl, en_q ha hb]; simp only [h, and_self, not_true, decide_false]) rfl (k2 h)
  · exact WH.q hw (by rw [show veil _ σ = kill l1 (only l3 σ) from rfl, en_q ha hb]; simp only [h, not_false_eq_true, decide_true]) rfl (k1 h)
/-- Two bools are compared. -/
theorem eb_q {σ : St} {ng : Bool} {a b : Opd} {x y : Bool} (ha : ev σ.env a = .a (.d (.s (.bool x)))) (hb : ev σ.env b = .a (.d (.s (.bool y)))) : quiet σ (.eqa ng false [.bool] a b) = some (.a (.d (.s (.bool ((x == y) != ng))))) := by
  cases ng <;> cases x <;> cases y <;> simp [quiet, ha, hb, cellsA, hasKs, hasK, eqSs, eqS, sv]
theorem WR.ebb {ng : Bool} {a b : Opd} {x y : Bool} (hw : wanted dsts σ.env g = some true) (ha : ev σ.env a = .a (.d (.s (.bool x)))) (hb : ev σ.env b = .a (.d (.s (.bool y))))
    (K : WR Γ dsts ops Q (set d (.a (.d (.s (.bool ((x == y) != ng))))) σ)) : WR Γ dsts (⟨d, .eqa ng false [.bool] a b, g, l1, l2, l3, l4⟩ :: ops) Q σ := WR.q hw (eb_q ha hb) K
theorem WH.ebb {ng : Bool} {a b : Opd} {x y : Bool} (hw : wanted dsts (kill l1 (only l3 σ)).env g = some true) (ha : ev (kill l1 (only l3 σ)).env a = .a (.d (.s (.bool x)))) (hb : ev (kill l1 (only l3 σ)).env b = .a (.d (.s (.bool y))))
    (K : WH Γ dsts ops Q (set d (.a (.d (.s (.bool ((x == y) != ng))))) σ)) : WH Γ dsts (⟨d, .eqa ng false [.bool] a b, g, l1, l2, l3, l4⟩ :: ops) Q σ := WH.q hw (eb_q ha hb) rfl K
end
end Go.DM

/- slices.SortStableFunc over cells: ranges exchanged, rows turned. -/
set_option linter.unusedSimpArgs false
set_option linter.unusedVariables false
set_option maxHeartbeats 4000000
namespace Go.DM
open Go.IntWalk
/-- Two ranges exchanged, the first i cells of each. -/
def swG (L : List Cel) (a b i k : Nat) : Cel := if a ≤ k ∧ k < a + i then gC L (k + (b - a)) else if b ≤ k ∧ k < b + i then gC L (k - (b - a)) else gC L k
theorem swG_step {L m : List Cel} {a b n i : Nat} (hb : a + n ≤ b) (hi : i < n) (hbn : b + n ≤ L.length) (hl : m.length = L.length) (hm : ∀ k, gC m k = swG L a b i k) :
    ∀ k, gC ((m.set (a + i) (gC m (b + i))).set (b + i) (gC m (a + i))) k = swG L a b (i + 1) k := fun k => by
  have h1 : gC m (b + i) = gC L (b + i) := by
    rw [hm]; unfold swG; rw [if_neg (by omega), if_neg (by omega)]
  have h2 : gC m (a + i) = gC L (a + i) := by
    rw [hm]; unfold swG; rw [if_neg (by omega), if_neg (by omega)]
  rw [gC_set (by rw [List.length_set]; omega), gC_set (by omega), h1, h2, hm]
  unfold swG
  by_cases e1 : k = b + i
  · subst e1
    rw [if_pos rfl, if_neg (by omega), if_pos (by omega)]; congr 1; omega
  · rw [if_neg e1]
    by_cases e2 : k = a + i
    · subst e2
      rw [if_pos rfl, if_pos (by omega)]; congr 1; omega
    · rw [if_neg e2]
      by_cases c1 : a ≤ k ∧ k < a + i
      · rw [if_pos c1, if_pos (by omega)]
      · have d1 : ¬ (a ≤ k ∧ k < a + (i + 1)) := by omega
        by_cases c2 : b ≤ k ∧ k < b + i
        · have d2 : b ≤ k ∧ k < b + (i + 1) := by omega
          rw [if_neg c1, if_pos c2, if_neg d1, if_pos d2]
        · have d2 : ¬ (b ≤ k ∧ k < b + (i + 1)) := by omega
          rw [if_neg c1, if_neg c2, if_neg d1, if_neg d2]
theorem swG_end {P X M Y Q m : List Cel} (hXY : X.length = Y.length) (hl : m.length = (P ++ X ++ M ++ Y ++ Q).length) (hm : ∀ k, gC m k = swG (P ++ X ++ M ++ Y ++ Q) P.length (P.length + X.length + M.length) X.length k) :
    m = P ++ Y ++ M ++ X ++ Q := by
  refine gC_ext (by rw [hl]; simp only [List.length_append]; omega) fun k hk => ?_
  rw [hl] at hk
  simp only [List.length_append] at hk
  rw [hm]
  unfold swG
  simp only [gC_app, List.length_append]
  by_cases c1 : k < P.length
  · repeat' (first | rw [if_pos (by omega)] | rw [if_neg (by omega)])
  · by_cases c2 : k < P.length + X.length
    · repeat' (first | rw [if_pos (by omega)] | rw [if_neg (by omega)])
      congr 1; omega
    · by_cases c3 : k < P.length + X.length + M.length
      · repeat' (first | rw [if_pos (by omega)] | rw [if_neg (by omega)])
        congr 1; omega
      · by_cases c4 : k < P.length + X.length + M.length + Y.length
        · repeat' (first | rw [if_pos (by omega)] | rw [if_neg (by omega)])
          congr 1; omega
        · repeat' (first | rw [if_pos (by omega)] | rw [if_neg (by omega)])
          congr 1; omega
theorem swapRange_gives (P X M Y Q : List Cel) (z : D) (hXY : X.length = Y.length) (hN : (P ++ X ++ M ++ Y ++ Q).length ≤ 100) :
    Gives G 215 [.ms (P ++ X ++ M ++ Y ++ Q).length 2 (encC (P ++ X ++ M ++ Y ++ Q)), ai .i64 (P.length : Nat), ai .i64 ((P.length + X.length + M.length : Nat)), ai .i64 (X.length : Nat), .d z] ⟨[], [encC (P ++ Y ++ M ++ X ++ Q)]⟩ := by
  have hlen : (P ++ X ++ M ++ Y ++ Q).length = P.length + X.length + M.length + Y.length + Q.length := by simp only [List.length_append]
  have hend := fun m => swG_end (P := P) (X := X) (M := M) (Y := Y) (Q := Q) (m := m) hXY
  generalize P ++ X ++ M ++ Y ++ Q = L at hN hlen hend ⊢
  generalize P ++ Y ++ M ++ X ++ Q = T at hend ⊢
  generalize hb : P.length + X.length + M.length = b at hlen hend ⊢
  generalize P.length = a at hlen hend hb ⊢
  generalize hn : X.length = n at hlen hend hb ⊢
  refine Gives.by rfl rfl (W.seq ?_)
  repeat' first | ((with_reducible apply WR.mv); exact rfl; exact rfl) | ((with_reducible apply WR.nil)) | (with_reducible refine andThen_n ?_) | (with_reducible refine W.region ?_) | (with_reducible refine W.block ?_)
  (refine (?_ : W _ (Code.loop _) _ _))
  (refine W.loopM [0, 1, 2, 3] [] [] (fun zz : (Nat) × (List Cel) => match zz with | (i, m) => (n - i : Nat)) (fun zz : (Nat) × (List Cel) => match zz with | (i, m) => (i ≤ n ∧ m.length = L.length ∧ ∀ k, gC m k = swG L a b i k : Prop)) (fun zz : (Nat) × (List Cel) => match zz with | (i, m) => [(10, .a (.d (.s (.int .i64 (i : Nat)))))]) (fun zz : (Nat) × (List Cel) => match zz with | (i, m) => [(0, .flat true (encC m))]) (0, L) (⟨by omega, rfl, fun k => by unfold swG; rw [if_neg (by omega), if_neg (by omega)]⟩) ⟨rfl, trivial⟩ ⟨rfl, trivial⟩ trivial ?_)
  rintro ⟨i, m⟩ σ hP hN; dsimp only [setL, putL] at hP ⊢
  obtain ⟨hi, hl, hm⟩ := hP
  by_cases hil : i < n
  · repeat' first | ((with_reducible apply WH.mv); exact rfl; exact rfl; exact rfl) | ((with_reducible apply WR.mv); exact rfl; exact rfl) | ((with_reducible apply WH.ad); exact rfl; exact rfl; exact rfl; (first | exact i64_in _ (by omega))) | ((with_reducible apply WH.isn); exact rfl; exact rfl; exact rfl; omega; exact rfl) | ((with_reducible apply WR.nil)) | (with_reducible refine andThen_n ?_) | (with_reducible refine inB_n ?_) | (with_reducible refine W.seq ?_) | (with_reducible refine W.region ?_) | (with_reducible refine W.skip ?_) | (with_reducible refine W.block ?_) | ((with_reducible apply W.condT); exact rfl) | ((with_reducible apply WH.nil)) | (with_reducible refine W.draw ?_) | (intro hb; try (exfalso; omega)) | ((with_reducible apply WH.ld); exact rfl; exact rfl; exact rfl; (first | exact ldC (by first | omega | (simp only [List.length_set, List.length_append, List.length_cons, List.length_nil]; omega))); exact rfl) | ((with_reducible apply WH.st); exact rfl; exact rfl; exact rfl; exact stC (by first | omega | (simp only [List.length_set, List.length_append, List.length_cons, List.length_nil]; omega)); exact rfl; exact rfl) | ((with_reducible apply WR.lss); exact rfl; exact rfl; exact rfl) | ((with_reducible apply WR.ad); exact rfl; exact rfl; exact rfl; (first | exact i64_in _ (by omega)))
    (refine W.nxt ((i + 1, (m.set (a + i) (gC m (b + i))).set (b + i) (gC m (a + i)))) (by first | omega | (dsimp only; omega)) ?_ ⟨rfl, trivial⟩ ⟨rfl, trivial⟩ ⟨rfl, rfl, rfl, rfl, trivial⟩ trivial trivial); (try dsimp only)
    exact ⟨by omega, by rw [List.length_set, List.length_set]; exact hl, swG_step (n := n) (by omega) hil (by omega) hl hm⟩
  · obtain rfl : i = n := by omega
    have e := hend m hl hm
    subst e
    repeat' first | ((with_reducible apply WR.mv); exact rfl; exact rfl) | ((with_reducible apply WR.nil)) | (with_reducible refine andThen_n ?_) | (with_reducible refine andThen_x ?_) | (with_reducible refine inB_x ?_) | (with_reducible refine W.seq ?_) | (with_reducible refine W.region ?_) | (with_reducible refine W.exit ?_) | ((with_reducible apply W.condF); exact rfl) | ((with_reducible apply Done.f); (intro hh hh2; exact (nomatch hh2)); (focus ((repeat' first | exact all_nil); done)); (focus ((repeat' first | exact all_nil); done)); exact rfl; (focus ((repeat' first | exact outs_nil | apply outs_d | (apply outs_ms; exact rfl; exact (by first | (simp only [grid_len, gridB_len, encC_length, encI_length, List.length_set, List.length_append, List.length_cons, List.length_nil]; omega)))); done))) | (intro hb; try (exfalso; omega)) | ((with_reducible apply WR.lss); exact rfl; exact rfl; exact rfl)
    rfl
/-- .. with the numbers as they come. -/
theorem swapRange_at {P X M Y Q L T : List Cel} {N : Nat} {z : D} {a b n : Int} (hXY : X.length = Y.length) (hL : P ++ X ++ M ++ Y ++ Q = L) (hT : P ++ Y ++ M ++ X ++ Q = T) (hN : L.length = N) (h100 : N ≤ 100)
    (ha : a = (P.length : Nat)) (hb : b = ((P.length + X.length + M.length : Nat))) (hn : n = (X.length : Nat)) :
    Gives G 215 [.ms N 2 (encC L), ai .i64 a, ai .i64 b, ai .i64 n, .d z] ⟨[], [encC T]⟩ := by
  subst ha hb hn hL hT hN
  exact swapRange_gives P X M Y Q z hXY h100
theorem rotate_gives (P A B Q : List Cel) (z : D) (hA : A ≠ []) (hB : B ≠ []) (hN : (P ++ A ++ B ++ Q).length ≤ 100) :
    Gives G 214 [.ms (P ++ A ++ B ++ Q).length 2 (encC (P ++ A ++ B ++ Q)), ai .i64 (P.length : Nat), ai .i64 ((P.length + A.length : Nat)), ai .i64 ((P.length + A.length + B.length : Nat)), .d z] ⟨[], [encC (P ++ B ++ A ++ Q)]⟩ := by
  have hA1 := List.length_pos_iff.2 hA
  have hB1 := List.length_pos_iff.2 hB
  have hlen : (P ++ A ++ B ++ Q).length = P.length + A.length + B.length + Q.length := by simp only [List.length_append]
  have hTl : (P ++ B ++ A ++ Q).length = P.length + A.length + B.length + Q.length := by simp only [List.length_append]; omega
  generalize hT : P ++ B ++ A ++ Q = T at hTl ⊢
  generalize hN0 : (P ++ A ++ B ++ Q).length = N at hN hlen ⊢
  generalize hm : P.length + A.length = m at hlen hTl ⊢
  refine Gives.by rfl rfl (W.seq ?_)
  repeat' first | ((with_reducible apply WR.mv); exact rfl; exact rfl) | ((with_reducible apply WR.sb); exact rfl; exact rfl; exact rfl; (first | exact i64_in _ (by omega))) | ((with_reducible apply WR.nil)) | (with_reducible refine andThen_n ?_) | (with_reducible refine W.seq ?_) | (with_reducible refine W.region ?_) | (with_reducible refine W.block ?_)
  (refine (?_ : W _ (Code.loop _) _ _))
  (refine W.loopM [0, 2, 4] [] [] (fun zz : (List Cel) × (List Cel) × (List Cel) × (List Cel) × (Int) × (Int) => match zz with | (P', A', B', Q', x, y) => (A'.length + B'.length : Nat)) (fun zz : (List Cel) × (List Cel) × (List Cel) × (List Cel) × (Int) × (Int) => match zz with | (P', A', B', Q', x, y) => ((1 ≤ A'.length ∧ 1 ≤ B'.length ∧ P'.length + A'.length = m ∧ x = A'.length ∧ y = B'.length) ∧ (P' ++ A' ++ B' ++ Q').length = N ∧ P' ++ B' ++ A' ++ Q' = T : Prop)) (fun zz : (List Cel) × (List Cel) × (List Cel) × (List Cel) × (Int) × (Int) => match zz with | (P', A', B', Q', x, y) => [(10, .a (.d (.s (.int .i64 x)))), (11, .a (.d (.s (.int .i64 y))))]) (fun zz : (List Cel) × (List Cel) × (List Cel) × (List Cel) × (Int) × (Int) => match zz with | (P', A', B', Q', x, y) => [(0, .flat true (encC (P' ++ A' ++ B' ++ Q')))]) (P, A, B, Q, (m : Nat) - (P.length : Nat), ((m + B.length : Nat) : Int) - (m : Nat)) (⟨⟨by omega, by omega, hm, by omega, by omega⟩, hN0, hT⟩) ⟨rfl, rfl, trivial⟩ ⟨rfl, trivial⟩ trivial ?_)
  rintro ⟨P', A', B', Q', x, y⟩ σ hP hN; dsimp only [setL, putL] at hP ⊢
  obtain ⟨⟨h1, h2, h3, hx, hy⟩, hl, ht⟩ := hP
  have hl2 : (P' ++ A' ++ B' ++ Q').length = P'.length + A'.length + B'.length + Q'.length := by simp only [List.length_append]
  by_cases hxy : x = y
  · have hs := swapRange_at (z := z) (P := P') (X := A') (M := []) (Y := B') (Q := Q') (L := P' ++ A' ++ B' ++ Q') (T := T) (N := N) (a := (m : Nat) - x) (b := (m : Nat)) (n := x) (by omega) (by simp) (by rw [← ht]; simp) hl (by omega) (by omega) (by simp; omega) (by omega)
    repeat' first | ((with_reducible apply WR.c_m (f := 215) (fn := Code.f215)); exact rfl; exact rfl; exact rfl; (focus ((repeat' first | exact args_nil | apply args_d | (apply args_s; exact rfl; exact rfl; exact (by first | (simp only [grid_len, gridB_len, encC_length, encI_length, List.length_set, List.length_append, List.length_cons, List.length_nil]; omega))) | exact toD_d rfl | exact all_nil); done)); exact hs; (focus ((repeat' first | exact backs_no | (apply backs_s; exact rfl; exact rfl; exact (by first | (simp only [grid_len, gridB_len, encC_length, encI_length, List.length_set, List.length_append, List.length_cons, List.length_nil]; omega)); exact (by first | (simp only [grid_len, gridB_len, encC_length, encI_length, List.length_set, List.length_append, List.length_cons, List.length_nil]; omega)))); done)); dsimp only [insertAll]) | ((with_reducible apply WR.mv); exact rfl; exact rfl) | ((with_reducible apply WR.sb); exact rfl; exact rfl; exact rfl; (first | exact i64_in _ (by omega))) | ((with_reducible apply WR.nil)) | (with_reducible refine andThen_n ?_) | (with_reducible refine andThen_x ?_) | (with_reducible refine inB_x ?_) | (with_reducible refine W.seq ?_) | (with_reducible refine W.region ?_) | (with_reducible refine W.exit ?_) | ((with_reducible apply W.condF); exact rfl) | ((with_reducible apply Done.f); (intro hh hh2; exact (nomatch hh2)); (focus ((repeat' first | exact all_nil); done)); (focus ((repeat' first | exact all_nil); done)); exact rfl; (focus ((repeat' first | exact outs_nil | apply outs_d | (apply outs_ms; exact rfl; exact (by first | (simp only [grid_len, gridB_len, encC_length, encI_length, List.length_set, List.length_append, List.length_cons, List.length_nil]; omega)))); done))) | (intro hb; try (exfalso; omega)) | ((with_reducible apply WR.neq); exact rfl; exact rfl; exact rfl)
    all_goals first
      | (exfalso; omega)
      | rfl
  · by_cases hgt : x > y
    · have d1 : (A'.drop B'.length).length = A'.length - B'.length := List.length_drop ..
      have d2 : (A'.take B'.length).length = B'.length := by rw [List.length_take]; omega
      have hs := swapRange_at (z := z) (P := P') (X := A'.take B'.length) (M := A'.drop B'.length) (Y := B') (Q := Q') (L := P' ++ A' ++ B' ++ Q') (T := P' ++ B' ++ A'.drop B'.length ++ A'.take B'.length ++ Q') (N := N) (a := (m : Nat) - x) (b := (m : Nat)) (n := y)
        (by rw [List.length_take]; omega) (by rw [List.append_assoc P' (A'.take _), List.take_append_drop]) rfl hl (by omega) (by omega) (by rw [List.length_take, List.length_drop]; omega) (by rw [List.length_take]; omega)
      repeat' first | ((with_reducible apply WR.c_m (f := 215) (fn := Code.f215)); exact rfl; exact rfl; exact rfl; (focus ((repeat' first | exact args_nil | apply args_d | (apply args_s; exact rfl; exact rfl; exact (by first | (simp only [grid_len, gridB_len, encC_length, encI_length, List.length_set, List.length_append, List.length_cons, List.length_nil]; omega))) | exact toD_d rfl); done)); exact hs; (focus ((repeat' first | exact backs_no | (apply backs_s; exact rfl; exact rfl; exact (by first | (simp only [grid_len, gridB_len, encC_length, encI_length, List.length_set, List.length_append, List.length_cons, List.length_nil]; omega)); exact (by first | (simp only [grid_len, gridB_len, encC_length, encI_length, List.length_set, List.length_append, List.length_cons, List.length_nil]; omega)))); done)); dsimp only [insertAll]) | ((with_reducible apply WR.mv); exact rfl; exact rfl) | ((with_reducible apply WR.sb); exact rfl; exact rfl; exact rfl; (first | exact i64_in _ (by omega))) | ((with_reducible apply WR.nil)) | (with_reducible refine andThen_n ?_) | (with_reducible refine inB_n ?_) | (with_reducible refine W.seq ?_) | (with_reducible refine W.region ?_) | (with_reducible refine W.skip ?_) | (with_reducible refine W.block ?_) | ((with_reducible apply W.condT); exact rfl) | (intro hb; try (exfalso; omega)) | ((with_reducible apply WR.gtr); exact rfl; exact rfl; exact rfl) | ((with_reducible apply WR.neq); exact rfl; exact rfl; exact rfl)
      all_goals try (exfalso; omega)
      (refine W.nxt ((P' ++ B', A'.drop B'.length, A'.take B'.length, Q', x - y, y)) (by first | omega | (dsimp only; omega)) ?_ ⟨rfl, rfl, trivial⟩ ⟨rfl, trivial⟩ ⟨rfl, rfl, rfl, trivial⟩ trivial trivial); (try dsimp only)
      refine ⟨⟨by omega, by omega, by rw [List.length_append]; omega, by omega, by omega⟩, ?_, ?_⟩
      · simp only [List.length_append, d1, d2] at hl ⊢; omega
      · rw [← ht, List.append_assoc (P' ++ B') (A'.take _), List.take_append_drop]
    · have d1 : (B'.drop (B'.length - A'.length)).length = A'.length := by rw [List.length_drop]; omega
      have d2 : (B'.take (B'.length - A'.length)).length = B'.length - A'.length := by rw [List.length_take]; omega
      have hs := swapRange_at (z := z) (P := P') (X := A') (M := B'.take (B'.length - A'.length)) (Y := B'.drop (B'.length - A'.length)) (Q := Q') (L := P' ++ A' ++ B' ++ Q') (T := P' ++ B'.drop (B'.length - A'.length) ++ B'.take (B'.length - A'.length) ++ (A' ++ Q')) (N := N) (a := (m : Nat) - x) (b := (m : Nat) + y - x) (n := x)
        (by rw [List.length_drop]; omega) (by rw [List.append_assoc (P' ++ A') (B'.take _), List.take_append_drop]) (by rw [List.append_assoc (P' ++ _ ++ _) A']) hl (by omega) (by omega) (by rw [List.length_take]; omega) (by omega)
      repeat' first | ((with_reducible apply WR.c_m (f := 215) (fn := Code.f215)); exact rfl; exact rfl; exact rfl; (focus ((repeat' first | exact args_nil | apply args_d | (apply args_s; exact rfl; exact rfl; exact (by first | (simp only [grid_len, gridB_len, encC_length, encI_length, List.length_set, List.length_append, List.length_cons, List.length_nil]; omega))) | exact toD_d rfl); done)); exact hs; (focus ((repeat' first | exact backs_no | (apply backs_s; exact rfl; exact rfl; exact (by first | (simp only [grid_len, gridB_len, encC_length, encI_length, List.length_set, List.length_append, List.length_cons, List.length_nil]; omega)); exact (by first | (simp only [grid_len, gridB_len, encC_length, encI_length, List.length_set, List.length_append, List.length_cons, List.length_nil]; omega)))); done)); dsimp only [insertAll]) | ((with_reducible apply WR.mv); exact rfl; exact rfl) | ((with_reducible apply WR.sb); exact rfl; exact rfl; exact rfl; (first | exact i64_in _ (by omega))) | ((with_reducible apply WR.nil)) | (with_reducible refine andThen_n ?_) | (with_reducible refine inB_n ?_) | (with_reducible refine W.seq ?_) | (with_reducible refine W.region ?_) | (with_reducible refine W.skip ?_) | (with_reducible refine W.block ?_) | ((with_reducible apply W.condT); exact rfl) | ((with_reducible apply W.condF); exact rfl) | (intro hb; try (exfalso; omega)) | ((with_reducible apply WR.gtr); exact rfl; exact rfl; exact rfl) | ((with_reducible apply WR.neq); exact rfl; exact rfl; exact rfl) | ((with_reducible apply WR.ad); exact rfl; exact rfl; exact rfl; (first | exact i64_in _ (by omega)))
      all_goals try (exfalso; omega)
      (refine W.nxt ((P', B'.drop (B'.length - A'.length), B'.take (B'.length - A'.length), A' ++ Q', x, y - x)) (by first | omega | (dsimp only; omega)) ?_ ⟨rfl, rfl, trivial⟩ ⟨rfl, trivial⟩ ⟨rfl, rfl, rfl, trivial⟩ trivial trivial); (try dsimp only)
      refine ⟨⟨by omega, by omega, by omega, by omega, by omega⟩, ?_, ?_⟩
      · simp only [List.length_append, d1, d2] at hl ⊢; omega
      · rw [← ht, List.append_assoc P' (B'.take _), List.take_append_drop, List.append_assoc (P' ++ B') A' Q']
end Go.DM
