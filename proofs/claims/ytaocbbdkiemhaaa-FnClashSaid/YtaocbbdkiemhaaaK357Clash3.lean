/- The best trap: the program's side. -/
import Derived.Test.YtaocbbdkiemhaaaK357Trap
import Derived.Test.YtaocbbdkiemhaaaK357Loop
import Derived.Test.YtaocbbdkiemhaaaK357Src
import Derived.Test.YtaocbbdkiemhaaaK357Walk
import Derived.Test.YtaocbbdkiemhaaaK357Clash
import Derived.Test.YtaocbbdkiemhaaaK357Dist
set_option linter.unusedSimpArgs false
set_option linter.unusedVariables false
set_option maxHeartbeats 4000000
namespace Go.DM
set_option linter.unusedSectionVars false
variable [Tok]
open Go.IntWalk
variable {w h : Int} {g : Nat → Int} {cs : List S} {q : Nat → Int} {qs : List S}
/-- What is needed of the paths. -/
structure Paths (w h : Int) (g : Nat → Int) (F : List Cel) (PT : Cel → List Cel) (LV : Cel → List S) : Prop where
  len : ∀ f ∈ F, 1 ≤ (PT f).length ∧ (PT f).length ≤ 61
  is : ∀ f ∈ F, ∀ c ∈ PT f, Is w h g 0 c.1 c.2
  hd : ∀ f ∈ F, f ∈ PT f
  lv : ∀ f ∈ F, ∃ q', IsLev q' (LV f)
end Go.DM

/- The cell at which a mole is most often: the reference's side, the statement. -/
set_option linter.unusedSimpArgs false
set_option linter.unusedVariables false
set_option maxHeartbeats 4000000
namespace Go.DM
set_option linter.unusedSectionVars false
variable [Tok]
open Go.IntWalk
variable {w h : Int} {g : Nat → Int} {cs : List S} {q : Nat → Int} {qs : List S}
end Go.DM

/- The best trap: the reference's side, the statement. -/
set_option linter.unusedSimpArgs false
set_option linter.unusedVariables false
set_option maxHeartbeats 4000000
namespace Go.DM
set_option linter.unusedSectionVars false
variable [Tok]
open Go.IntWalk
variable {w h : Int} {g : Nat → Int} {cs : List S} {q : Nat → Int} {qs : List S}
end Go.DM

/- The night of a trap: the reference's side; the statement of NightOf. -/
set_option linter.unusedSimpArgs false
set_option linter.unusedVariables false
set_option maxHeartbeats 4000000
namespace Go.DM
set_option linter.unusedSectionVars false
variable [Tok]
open Go.IntWalk
variable {w h : Int} {g : Nat → Int} {cs : List S} {q : Nat → Int} {qs : List S}

end Go.DM

/- Moles told of: levels that are drawn; one night; the soil's sum; lists of cells. -/
set_option linter.unusedSimpArgs false
set_option linter.unusedVariables false
set_option maxHeartbeats 4000000
namespace Go.DM
set_option linter.unusedSectionVars false
variable [Tok]
open Go.IntWalk
variable {w h : Int} {g : Nat → Int} {cs : List S} {q : Nat → Int} {qs : List S}

theorem f6big_gives (i : Nat) (hl : (Tok.dat i).length ≤ 9223372036854775807) : Gives G 358 [.d (.s (.tok i))] (rb (decide (4096 < (Tok.dat i).length))) := by
  refine Gives.by rfl rfl (W.seq ?_)
  repeat' first | ((with_reducible apply WR.mv); exact rfl; exact rfl) | ((with_reducible apply WR.nil)) | (with_reducible refine andThen_n ?_) | (with_reducible refine W.seq ?_) | (with_reducible refine W.region ?_) | (with_reducible refine W.ret ?_) | ((with_reducible apply Done.f); (intro hh hh2; exact (nomatch hh2)); (focus ((repeat' first | exact all_nil | apply all_cons | exact res_tmp rfl); done)); (focus ((repeat' first | exact all_nil | apply all_cons | exact retOf_s rfl); done)); exact rfl; (focus ((repeat' first | exact outs_nil | apply outs_d); done))) | (intro hb; try (exfalso; omega)) | ((with_reducible apply WR.gtr); exact rfl; exact rfl; exact rfl) | ((with_reducible apply WR.le); exact rfl; exact rfl)
  · exact rb_t (by omega)
  · exact rb_f (by omega)
/-! Levels that are drawn. -/
def levsOk (w h : Int) (g q : Nat → Int) : Prop := ∀ k, k < 100 → levCell w h g q k
theorem levsOk.set (hq : levsOk w h g q) (hw : 1 ≤ w ∧ w ≤ 10) (hh : 1 ≤ h ∧ h ≤ 10) {x y n : Int} (hc : Is w h g 0 x y) (hn : -9 ≤ n ∧ n ≤ 9) : levsOk w h g (gset q (10 * y.toNat + x.toNat) n) := by
  intro k hk
  have h0 := hq k hk
  obtain ⟨hb, hg⟩ := hc
  simp only [levCell, gset] at h0 ⊢
  split
  · rename_i e
    subst e
    exact ⟨hn, .inr ⟨by omega, by omega, hg⟩⟩
  · exact h0
/-! One night. -/
/-! The soil's sum. -/
end Go.DM

/- Moles told of: plain facts. -/
set_option linter.unusedSimpArgs false
set_option linter.unusedVariables false
set_option maxHeartbeats 4000000
namespace Go.DM
set_option linter.unusedSectionVars false
variable [Tok]
open Go.IntWalk
variable {w h : Int} {g : Nat → Int} {cs : List S} {q : Nat → Int} {qs : List S}

/-! Where a mole goes. -/
/-! The path. -/
/-! Sums of soil. -/
/-! Levels that are told of stay levels. -/
/-! Counts. -/
end Go.DM

/- Moles told of: more plain facts. -/
set_option linter.unusedSimpArgs false
set_option linter.unusedVariables false
set_option maxHeartbeats 4000000
namespace Go.DM
set_option linter.unusedSectionVars false
variable [Tok]
open Go.IntWalk
variable {w h : Int} {g : Nat → Int} {cs : List S} {q : Nat → Int} {qs : List S}
/-! A list that is exchanged place by place. -/
/-! The night of a trap. -/
/-! The cell at which a mole is most often. -/
end Go.DM

/- Robots that clash: steps to a cell; no home; plain facts. -/
set_option linter.unusedSimpArgs false
set_option linter.unusedVariables false
set_option maxHeartbeats 4000000
namespace Go.DM
set_option linter.unusedSectionVars false
variable [Tok]
open Go.IntWalk
variable {w h : Int} {g : Nat → Int} {cs : List S}

def stepsRes (n : Int) : Res := if n < 0 then ⟨[.s (.int .i64 0), .s (.int .i64 6)], []⟩ else ⟨[.s (.int .i64 n), .s (.int .i64 0)], []⟩
theorem stepsTo_gives (l : IsLawn w h g cs) (hL : LawnOk w h g) (a b : Cel) (hA : Opn w h g a.1 a.2) (hB : Opn w h g b.1 b.2) : Gives G 373 [aa cs, ac a.1 a.2, ac b.1 b.2] (stepsRes (steps w h g a (ix b))) := by
  have hs1 := hL.1
  have hs2 := hL.2.1
  have ho := openCode_gives l [a, b] (by simp)
  rw [belowCode_zero.2 ⟨hL, by simp; exact ⟨hA.1, hB.1⟩, by simp; exact ⟨hA, hB⟩⟩] at ho
  have hst : Gives G 46 [aa cs, ac a.1 a.2, .d (.clo 77 [.agg cs] [])] ⟨[.own (w * h).toNat 1 (rowI .i64 (w * h).toNat (outI w (steps w h g a)))], []⟩ := (steps_eq (w := w) (h := h) (g := g) a) ▸ steps_gives l (by omega) (holds_open l ⟨by omega, by omega⟩) (fun _ _ => trivial) a.1 a.2 hA.1
  have hib := idx_b (w := w) (h := h) (by omega) hB.1
  have hg := outI_get (d := steps w h g a) hB.1
  have hbb := hB.1
  simp only [Has] at hbb
  rw [show steps w h g a (ix b) = outI w (steps w h g a) (b.2 * w + b.1).toNat from hg.symm]
  generalize outI w (steps w h g a) = X at hst hg ⊢
  unfold stepsRes
  refine Gives.by rfl rfl (W.seq ?_)
  repeat' first | ((with_reducible apply WR.c_s (f := 37) (fn := Code.f37)); exact rfl; exact rfl; exact rfl; (first | exact rfl); (focus ((repeat' first | exact args_nil | apply args_d | exact toD_d rfl | exact toD_slC rfl rfl (by first | exact rfl) | (apply toD_clo; exact rfl) | exact all_nil | apply all_cons | exact rfl); done)); exact ho) | ((with_reducible apply WH.c_o (f := 46) (fn := Code.f46)); exact rfl; exact rfl; exact rfl; (first | exact rfl); (focus ((repeat' first | exact args_nil | apply args_d | exact toD_d rfl | exact toD_slC rfl rfl (by first | exact rfl) | (apply toD_clo; exact rfl) | exact all_nil | apply all_cons | exact rfl); done)); exact hst; (first | (focus ((repeat' first | (with_reducible apply noPar_set) | ((with_reducible apply noPar_puto); exact rfl) | (with_reducible apply noPar_kill) | exact rfl); done)) | exact rfl); exact rfl; exact rfl) | ((with_reducible apply WH.c_s (f := 48) (fn := Code.f48)); exact rfl; exact rfl; exact rfl; (first | exact rfl); (focus ((repeat' first | exact args_nil | apply args_d | exact toD_d rfl | exact toD_slC rfl rfl (by first | exact rfl) | (apply toD_clo; exact rfl) | exact all_nil | apply all_cons | exact rfl); done)); exact index_gives' (by assumption) _ _ (by omega) (by omega); exact rfl) | ((with_reducible apply WR.mv); exact rfl; exact rfl) | ((with_reducible apply WH.ld); exact rfl; exact rfl; exact rfl; (first | exact ld2 | exact loadC_all (IsLawn.len (by assumption)) | exact ldR (by omega)); exact rfl) | ((with_reducible apply WR.bx); exact rfl; exact rfl; exact (by first | exact IsLawn.len (by assumption) | exact rfl); (first | (focus ((repeat' first | (with_reducible apply noPar_set) | ((with_reducible apply noPar_puto); exact rfl) | (with_reducible apply noPar_kill) | exact rfl); done)) | exact rfl)) | ((with_reducible apply WR.ld); exact rfl; exact rfl; exact rfl; (first | exact ld2 | exact loadC_all (IsLawn.len (by assumption)) | exact ldR (by omega))) | ((with_reducible apply WR.nil)) | (with_reducible refine andThen_n ?_) | (with_reducible refine andThen_r ?_) | (with_reducible refine W.seq ?_) | (with_reducible refine W.region ?_) | (with_reducible refine W.skip ?_) | (with_reducible refine W.ret ?_) | ((with_reducible apply W.condT); exact rfl) | ((with_reducible apply W.condF); exact rfl) | ((with_reducible apply Done.f); (intro hh hh2; exact (nomatch hh2)); (focus ((repeat' first | exact all_nil | apply all_cons | exact res_tmp rfl | exact rfl); done)); (focus ((repeat' first | exact all_nil | apply all_cons | exact retOf_s rfl | exact rfl); done)); exact rfl; (focus ((repeat' first | exact outs_nil | apply outs_d | exact rfl); done))) | ((with_reducible apply WH.nil)) | (with_reducible refine W.draw ?_) | (intro hb; try (exfalso; omega)) | ((with_reducible apply WR.lss); exact rfl; exact rfl; exact rfl) | ((with_reducible apply WR.neq); exact rfl; exact rfl; exact rfl) | ((with_reducible apply WR.bs2); exact rfl; exact rfl; exact rfl; (first | (focus ((repeat' first | (with_reducible apply noPar_set) | ((with_reducible apply noPar_puto); exact rfl) | (with_reducible apply noPar_kill) | exact rfl); done)) | exact rfl)) | ((with_reducible apply WH.mv); exact rfl; exact rfl; exact rfl) | ((with_reducible apply WH.is); exact rfl; exact rfl; exact rfl; omega; exact rfl) | ((with_reducible apply WH.mf); exact rfl; exact rfl; exact rfl)
  · rw [if_pos (by assumption)]; rfl
  · rw [if_neg (by assumption)]; rfl
theorem bestHome_none (l : IsLawn w h g cs) (hL : LawnOk w h g) (h0 : those w h (fun c => Opn w h g c.1 c.2) = []) : Gives G 369 [aa cs] ⟨[.agg [.int .i8 0, .int .i8 0], .s (.int .i64 0), .s (.int .i64 6)], []⟩ := by
  have hs1 := hL.1
  have hs2 := hL.2.1
  have hth := those_gives l (by omega) (holds_open l ⟨by omega, by omega⟩) (fun _ _ => trivial)
  rw [h0] at hth
  refine Gives.by rfl rfl (W.seq ?_)
  repeat' first | ((with_reducible apply WR.c_o (f := 31) (fn := Code.f31)); exact rfl; exact rfl; exact rfl; (first | exact rfl); (focus ((repeat' first | exact args_nil | apply args_d | exact toD_d rfl | (apply toD_clo; exact rfl) | exact all_nil | apply all_cons | exact rfl); done)); exact hth; (first | (focus ((repeat' first | (with_reducible apply noPar_set) | ((with_reducible apply noPar_puto); exact rfl) | (with_reducible apply noPar_kill) | exact rfl); done)) | exact rfl)) | (with_reducible refine W.loop ?_) | (intro hb; exfalso; simp at hb; done) | ((with_reducible apply WR.c_p (f := 30) (fn := Code.f30)); exact rfl; exact rfl; exact rfl; (first | exact rfl); (focus ((repeat' first | exact args_nil | apply args_d | exact toD_d rfl | (apply toD_clo; exact rfl) | exact all_nil | apply all_cons | exact rfl); done)); exact validLawn_gives (by assumption)) | ((with_reducible apply WR.mv); exact rfl; exact rfl) | ((with_reducible apply WR.ld); exact rfl; exact rfl; exact rfl; (first | exact loadC_all (IsLawn.len (by assumption)))) | ((with_reducible apply WR.st); exact rfl; exact rfl; exact rfl; exact st2) | ((with_reducible apply WR.lss); exact rfl; exact rfl; exact rfl) | ((with_reducible apply WR.bu); exact rfl; exact rfl) | ((with_reducible apply WR.al); exact rfl; (first | (focus ((repeat' first | (with_reducible apply noPar_set) | ((with_reducible apply noPar_puto); exact rfl) | (with_reducible apply noPar_kill) | exact rfl); done)) | exact rfl)) | ((with_reducible apply WR.nil)) | (with_reducible refine andThen_n ?_) | (with_reducible refine andThen_x ?_) | (with_reducible refine andThen_r ?_) | (with_reducible refine inB_x ?_) | (with_reducible refine W.seq ?_) | (with_reducible refine W.region ?_) | (with_reducible refine W.skip ?_) | (with_reducible refine W.ret ?_) | (with_reducible refine W.exit ?_) | (with_reducible refine W.block ?_) | ((with_reducible apply W.condT); exact rfl) | ((with_reducible apply W.condF); exact rfl) | ((with_reducible apply Done.f); (intro hh hh2; exact (nomatch hh2)); (focus ((repeat' first | exact all_nil | apply all_cons | exact res_tmp rfl | exact res_cell rfl rfl (by first | exact IsLawn.len (by assumption) | exact rfl) | exact rfl); done)); (focus ((repeat' first | exact all_nil | apply all_cons | exact retOf_s rfl | exact retOf_a rfl | exact rfl); done)); exact rfl; (focus ((repeat' first | exact outs_nil | apply outs_d | exact rfl); done))) | (intro hb; try (exfalso; omega)) | ((with_reducible apply WR.bx); exact rfl; exact rfl; exact (by first | exact IsLawn.len (by assumption) | exact rfl); (first | (focus ((repeat' first | (with_reducible apply noPar_set) | ((with_reducible apply noPar_puto); exact rfl) | (with_reducible apply noPar_kill) | exact rfl); done)) | exact rfl)) | ((with_reducible apply WR.mf); exact rfl; exact rfl) | ((with_reducible apply WR.un); exact rfl; exact rfl) | ((with_reducible apply WR.le); exact rfl; exact rfl)
  all_goals first | rfl | contradiction
theorem late_walk {b : List Cel} (hw : WalkOk w h g b) : ∀ n, WalkOk w h g (late b n)
  | 0 => hw
  | n + 1 => by
    have ih := late_walk hw n
    have h0 := (ih.1 0 ih.2).1
    have hg0 : gC (late b n) 0 = gC b 0 := by
      cases n with
      | zero => rfl
      | succ n => rfl
    rw [hg0] at h0
    rw [← late_succ]
    refine ⟨fun i hi => ?_, by simp⟩
    cases i with
    | zero => exact ⟨h0, fun k => by omega⟩
    | succ i =>
      have hi' : i < (late b n).length := by simpa using hi
      have hg : ∀ j, gC ([gC b 0] ++ late b n) (j + 1) = gC (late b n) j := fun j => by simp [gC, List.getD_eq_getElem?_getD]
      have hz : gC ([gC b 0] ++ late b n) 0 = gC b 0 := rfl
      unfold GoodAt
      rw [hg]
      refine ⟨(ih.1 i hi').1, fun _ => ?_⟩
      rw [show i + 1 - 1 = i by omega]
      cases i with
      | zero => rw [hz, hg0]; exact bes_self _
      | succ j =>
        rw [hg]
        have := (ih.1 (j + 1) hi').2 (by omega)
        simpa using this
theorem firstFrom_some {P : Nat → Prop} [DecidablePred P] {m : Nat} : ∀ {f t r : Nat}, firstFrom P m f t = some r → (t ≤ r ∧ r < m) ∧ P r ∧ ∀ s, t ≤ s → s < r → ¬ P s
  | 0, t, r, hx => by cases hx
  | f + 1, t, r, hx => by
    unfold firstFrom at hx
    split at hx
    · rename_i ht
      split at hx
      · rename_i hc
        cases hx
        exact ⟨⟨Nat.le_refl _, ht⟩, hc, fun s h1 h2 => by omega⟩
      · rename_i hc
        obtain ⟨h1, h2, h3⟩ := firstFrom_some hx
        refine ⟨⟨by omega, h1.2⟩, h2, fun s h4 h5 => ?_⟩
        by_cases e : s = t
        · rw [e]; exact hc
        · exact h3 s (by omega) h5
    · cases hx
theorem firstOf_some {P : Nat → Prop} [DecidablePred P] {m r : Nat} (hx : firstOf P m 0 = some r) : r < m ∧ P r ∧ ∀ s, s < r → ¬ P s := by
  obtain ⟨h1, h2, h3⟩ := firstFrom_some hx
  exact ⟨h1.2, h2, fun s hs => h3 s (Nat.zero_le _) hs⟩
theorem clear_none {a b : List Cel} {n : Nat} : Clear a b n ↔ clashAt a (late b n) (max a.length (late b n).length) 0 = none := by
  rw [clashAt_none]; rfl
end Go.DM

/- A state is told anew. -/
set_option linter.unusedSimpArgs false
set_option linter.unusedVariables false
namespace Go.DM
set_option linter.unusedSectionVars false
variable [Tok]
theorem W.cutC {Γ : Nat → Option Fn} {c : Code} {Q : Ex → St → Prop} {σ0 : St} (N : List Nat) (E : List (Nat × V)) (O : List (Nat × Ob)) (hE : isE σ0 E) (hO : isO σ0 O) (hN : noP σ0 N) (h : ∀ σ, noP σ N → W Γ c Q (putL O (setL E σ))) : W Γ c Q σ0 := by
  have := h σ0 hN
  rw [setL_self hE, putL_self hO] at this
  exact this
end Go.DM

/- Robots that clash: the law. -/
set_option linter.unusedSimpArgs false
set_option linter.unusedVariables false
set_option maxHeartbeats 8000000
namespace Go.DM
set_option linter.unusedSectionVars false
variable [Tok]
open Go.IntWalk
variable {w h : Int} {g : Nat → Int} {cs : List S}
/-- What is known of two robots of a statement. -/
structure Two (w h : Int) (g : Nat → Int) (cs : List S) (x y : Cel) (a b : List Cel) : Prop where
  l : IsLawn w h g cs
  hL : LawnOk w h g
  hx : Opn w h g x.1 x.2
  hy : Opn w h g y.1 y.2
  wa : WalkOk w h g a
  wb : WalkOk w h g b
  la : a.length ≤ 10
  lb : b.length ≤ 10
  big0 : Gives G 358 [.d (.s (.tok 0))] (rb false)
  big1 : Gives G 358 [.d (.s (.tok 1))] (rb false)
  lawn : Gives G 359 [.d (.s (.tok 0))] ⟨[.agg cs], []⟩
  o1 : Gives G 368 [.d (.s (.tok 1)), aa cs] ⟨[.agg [.int .i8 x.1, .int .i8 x.2], .s (.bool true)], []⟩
  o0 : Gives G 368 [.d (.s (.tok 0)), aa cs] ⟨[.agg [.int .i8 y.1, .int .i8 y.2], .s (.bool true)], []⟩
  k0 : Gives G 370 [.d (.s (.tok 0)), aa cs, ac x.1 x.2] ⟨[.own a.length 2 (encC a)], []⟩
  k1 : Gives G 370 [.d (.s (.tok 1)), aa cs, ac y.1 y.2] ⟨[.own b.length 2 (encC b)], []⟩
theorem walkB (hs : w ≤ 10 ∧ h ≤ 10) {a : List Cel} (wa : WalkOk w h g a) : ∀ i, i < a.length → -128 ≤ (gC a i).1 ∧ (gC a i).1 ≤ 127 ∧ -128 ≤ (gC a i).2 ∧ (gC a i).2 ≤ 127 := fun i hi => by
  have := (wa.1 i hi).1.1
  simp only [Has] at this
  omega
theorem walks_zero (hL : LawnOk w h g) {a b : List Cel} (wa : WalkOk w h g a) (wb : WalkOk w h g b) (la : a.length ≤ 201) (lb : b.length ≤ 201) : walksC w h g a b = 0 := by
  unfold walksC
  rw [if_pos hL, if_neg (by omega), if_pos ⟨wa, wb⟩]
theorem clash_raw {a b : List Cel} {n : Nat} : Clash a b n ↔
    ((gC a (min (n : Int) ((a.length : Int) - 1)).toNat).1 = (gC b (min (n : Int) ((b.length : Int) - 1)).toNat).1 ∧ (gC a (min (n : Int) ((a.length : Int) - 1)).toNat).2 = (gC b (min (n : Int) ((b.length : Int) - 1)).toNat).2) ∨
    (0 < n ∧ ((gC a (min (n : Int) ((a.length : Int) - 1)).toNat).1 = (gC b (min ((n : Int) - 1) ((b.length : Int) - 1)).toNat).1 ∧ (gC a (min (n : Int) ((a.length : Int) - 1)).toNat).2 = (gC b (min ((n : Int) - 1) ((b.length : Int) - 1)).toNat).2) ∧
      ((gC b (min (n : Int) ((b.length : Int) - 1)).toNat).1 = (gC a (min ((n : Int) - 1) ((a.length : Int) - 1)).toNat).1 ∧ (gC b (min (n : Int) ((b.length : Int) - 1)).toNat).2 = (gC a (min ((n : Int) - 1) ((a.length : Int) - 1)).toNat).2)) := by
  have e1 : ∀ (c : List Cel), whr c n = gC c (min (n : Int) ((c.length : Int) - 1)).toNat := fun c => by unfold whr; congr 1; omega
  have e2 : ∀ (c : List Cel), whr c (n - 1) = gC c (min ((n : Int) - 1) ((c.length : Int) - 1)).toNat ∨ n = 0 := fun c => by
    by_cases h0 : n = 0
    · exact .inr h0
    · left; unfold whr; congr 1; omega
  unfold Clash
  rw [e1 a, e1 b]
  rcases e2 a with ea | h0
  · rcases e2 b with eb | h0
    · rw [ea, eb, cel_eq, cel_eq, cel_eq (q := gC b (min (n : Int) ((b.length : Int) - 1)).toNat)]
      constructor
      · rintro (k | ⟨k1, k2, k3⟩)
        · exact .inl k
        · exact .inr ⟨k1, k2, k3.1.symm, k3.2.symm⟩
      · rintro (k | ⟨k1, k2, k3⟩)
        · exact .inl k
        · exact .inr ⟨k1, k2, k3.1.symm, k3.2.symm⟩
    · subst h0; simp [cel_eq]
  · subst h0; simp [cel_eq]
/-- What is told of the first clash and of the least delay. -/
theorem told2 (a b : List Cel) : ∃ due p q one wait two : Int, fcR (clashAt a b (max a.length b.length) 0) = [.s (.int .i64 due), .s (.int .i64 p), .s (.int .i64 q), .s (.int .i64 one)] ∧
    delayR (firstOf (Clear a b) 21 0) = [.s (.int .i64 wait), .s (.int .i64 two)] ∧ (one = 0 ∨ one = 6) ∧ (two = 0 ∨ two = 6) ∧ (one = 6 ↔ two = 0 ∧ wait = 0) ∧ (0 ≤ due ∧ due ≤ max a.length b.length) ∧ (0 ≤ wait ∧ wait ≤ 20) ∧
    (∀ n : Nat, n < max a.length b.length → (Clash a b n → one = 0 ∧ due ≤ n) ∧ (one = 0 → due = n → Clash a b n)) ∧ (two = 0 → ∀ n : Nat, (n : Int) ≤ wait → ((n : Int) = wait ↔ Clear a b n)) := by
  have hz : Clear a b 0 ↔ clashAt a b (max a.length b.length) 0 = none := clear_none
  cases hR : clashAt a b (max a.length b.length) 0 with
  | none =>
    rw [hR] at hz
    have hc0 := hz.2 rfl
    have hW : firstOf (Clear a b) 21 0 = some 0 := by rw [firstOf_step, if_pos (by omega), if_pos hc0]
    rw [hW]
    rw [clashAt_none] at hR
    refine ⟨0, 0, 0, 6, 0, 0, rfl, rfl, .inr rfl, .inl rfl, by omega, by omega, by omega, fun n hn => ⟨fun hc => absurd hc (hR n hn), fun k => by omega⟩, fun _ n hn => ?_⟩
    obtain rfl : n = 0 := by omega
    exact ⟨fun _ => hc0, fun _ => rfl⟩
  | some t =>
    rw [hR] at hz
    have hc0 : ¬ Clear a b 0 := fun k => by cases hz.1 k
    obtain ⟨h1, h2, h3⟩ := clashAt_some hR
    have hcl : ∀ n : Nat, n < max a.length b.length → (Clash a b n → (0 : Int) = 0 ∧ (t : Int) ≤ n) ∧ ((0 : Int) = 0 → (t : Int) = n → Clash a b n) := fun n hn => ⟨fun hc => ⟨rfl, by
        have : ¬ n < t := fun k => h3 n k hc
        omega⟩, fun _ e => by
        have : t = n := by omega
        rw [← this]; exact h2⟩
    cases hW : firstOf (Clear a b) 21 0 with
    | none => exact ⟨t, 0, 1, 0, 0, 6, rfl, rfl, .inl rfl, .inr rfl, by omega, by omega, by omega, hcl, fun k => by omega⟩
    | some r =>
      obtain ⟨k1, k2, k3⟩ := firstOf_some hW
      have hr0 : r ≠ 0 := fun e => hc0 (by rw [← e]; exact k2)
      refine ⟨t, 0, 1, 0, r, 0, rfl, rfl, .inl rfl, .inl rfl, by omega, by omega, by omega, hcl, fun _ n hn => ⟨fun e => ?_, fun hc => ?_⟩⟩
      · have : n = r := by omega
        rw [this]; exact k2
      · have : ¬ n < r := fun k => k3 n k hc
        omega
def Told2 (a b : List Cel) (due p q one wait two : Int) : Prop := fcR (clashAt a b (max a.length b.length) 0) = [.s (.int .i64 due), .s (.int .i64 p), .s (.int .i64 q), .s (.int .i64 one)] ∧
    delayR (firstOf (Clear a b) 21 0) = [.s (.int .i64 wait), .s (.int .i64 two)] ∧ (one = 0 ∨ one = 6) ∧ (two = 0 ∨ two = 6) ∧ (one = 6 ↔ two = 0 ∧ wait = 0) ∧ (0 ≤ due ∧ due ≤ max a.length b.length) ∧ (0 ≤ wait ∧ wait ≤ 20) ∧
    (∀ n : Nat, n < max a.length b.length → (Clash a b n → one = 0 ∧ due ≤ n) ∧ (one = 0 → due = n → Clash a b n)) ∧ (two = 0 → ∀ n : Nat, (n : Int) ≤ wait → ((n : Int) = wait ↔ Clear a b n))
theorem told2_is (a b : List Cel) : ∃ due p q one wait two : Int, Told2 a b due p q one wait two := told2 a b
end Go.DM
