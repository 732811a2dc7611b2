/- Ways: their codes: both sides. -/
import Derived.Test.YtgbifpijjfolbaaGreatK441Battery
import Derived.Test.YtgbifpijjfolbaaGreatK441Way
import Derived.Test.YtgbifpijjfolbaaGreatK441Weeds
import Derived.Test.YtgbifpijjfolbaaGreatK441RunsP
set_option linter.all false
set_option maxHeartbeats 4000000
namespace Go.DM
variable [Tok]
open Go.IntWalk
variable {w h : Int} {g : Nat → Int} {cs : List S}
def firstC (w h : Int) (g : Nat → Int) (c : Cel) : Int := belowCode (LawnOk w h g) (Has w h c.1 c.2) True
def toldC (w h : Int) (g : Nat → Int) (c : Cel) (s : List UInt8) : Int := if firstC w h g c = 0 then wayC s else firstC w h g c
def OpnW (w h : Int) (g : Nat → Int) (c : Cel) (s : List UInt8) : Prop := ∀ j, j < s.length + 1 → Opn w h g (at_ s c j).1 (at_ s c j).2
instance (c : Cel) (s : List UInt8) : Decidable (OpnW w h g c s) := Nat.decidableBallLT ..
def goneC (w h : Int) (g : Nat → Int) (c : Cel) (s : List UInt8) : Int := if toldC w h g c s = 0 then (if OpnW w h g c s then 0 else 4) else toldC w h g c s
theorem told_ok {c : Cel} {s : List UInt8} (h0 : toldC w h g c s = 0) : (1 ≤ w ∧ w ≤ 10 ∧ 1 ≤ h ∧ h ≤ 10) ∧ Has w h c.1 c.2 ∧ s.length ≤ 200 ∧ ∀ j, j < s.length → 0 ≤ lt (gB s j) := by
  unfold toldC at h0
  split at h0
  · rename_i hf
    obtain ⟨h1, h2, _⟩ := belowCode_zero.1 hf
    unfold wayC at h0
    split at h0
    · cases h0
    · rename_i hl
      split at h0
      · rename_i hh
        exact ⟨⟨h1.1.1, h1.1.2, h1.2.1.1, h1.2.1.2⟩, h2, by omega, hh⟩
      · cases h0
  · rename_i hf
    exact absurd h0 hf
theorem l02Told_gives (l : IsLawn w h g cs) (c : Cel) (hx : InB c) (s : List UInt8) : Gives G 78 [ar cs, ac c.1 c.2, .d (.s (.str s))] (ri .i64 (toldC w h g c s)) := by
  have hx2 : -128 ≤ c.1 ∧ c.1 ≤ 127 ∧ -128 ≤ c.2 ∧ c.2 ≤ 127 := by simp only [InB] at hx; omega
  have ht := l01Told_gives l (decide (Has w h c.1 c.2))
  have e : belowCode (LawnOk w h g) (decide (Has w h c.1 c.2) = true) True = firstC w h g c := belowCode_congr Iff.rfl (by simp) Iff.rfl
  rw [e] at ht
  have hw := l02Way_gives s
  unfold toldC
  refine Gives.by rfl rfl (W.seq ?_)
  repeat' first | ((with_reducible apply WR.c_s (f := 84) (fn := Code.f84)); (iterate 3 exact rfl); exact rfl; (focus ((repeat' first | exact args_nil | apply args_d | exact toD_d rfl | exact all_nil | apply all_cons | exact rfl); done)); exact ht) | ((with_reducible apply WR.c_s (f := 107) (fn := Code.f107)); (iterate 3 exact rfl); exact rfl; (focus ((repeat' first | exact args_nil | apply args_d | exact toD_d rfl | exact all_nil | apply all_cons | exact rfl); done)); exact hw) | ((with_reducible apply WR.c_s (f := 50) (fn := Code.f50)); (iterate 3 exact rfl); exact rfl; (focus ((repeat' first | exact args_nil | apply args_d | exact toD_d rfl | exact all_nil | apply all_cons | exact rfl); done)); exact l01Is_gives l c.1 c.2 hx2) | ((with_reducible apply WR.mv); exact rfl; exact rfl) | (with_reducible first | apply WR.nil | refine andThen_n ?_ | refine W.seq ?_ | refine W.region ?_ | refine W.skip ?_ | refine W.ret ?_) | ((with_reducible apply W.condT); exact rfl) | ((with_reducible apply W.condF); exact rfl) | ((with_reducible apply Done.f); (intro hh hh2; exact (nomatch hh2)); (focus ((repeat' first | exact all_nil | apply all_cons | exact res_tmp rfl | exact rfl); done)); (focus ((repeat' first | exact all_nil | apply all_cons | exact retOf_s rfl | exact rfl); done)); exact rfl; (focus ((repeat' first | exact outs_nil | apply outs_d | exact rfl); done))) | (intro hb; try (exfalso; omega)) | ((with_reducible apply WR.eql); iterate 3 exact rfl) | ((with_reducible apply WR.bx); exact rfl; exact rfl; exact (by first | exact rfl); exact rfl) | ((with_reducible apply WR.ld); (iterate 3 exact rfl); (exact ld2))
  · rw [if_pos (by assumption)]; rfl
  · rw [if_neg (by assumption)]; rfl
theorem gone_zero {c : Cel} {s : List UInt8} (h0 : goneC w h g c s = 0) : toldC w h g c s = 0 ∧ OpnW w h g c s := by
  unfold goneC at h0
  split at h0
  · rename_i ht
    split at h0
    · exact ⟨ht, by assumption⟩
    · cases h0
  · rename_i ht
    exact absurd h0 ht
theorem l02Gone_gives (l : IsLawn w h g cs) (c : Cel) (hx : InB c) (s : List UInt8) :
    Gives G 39 [ar cs, ac c.1 c.2, .d (.s (.str s))] (if goneC w h g c s = 0 then ⟨[.own (trk s c s.length).length 2 (encC (trk s c s.length)), .s (.int .i64 0)], []⟩ else ⟨[.own 0 2 (encC []), .s (.int .i64 (goneC w h g c s))], []⟩) := by
  have hx2 : -128 ≤ c.1 ∧ c.1 ≤ 127 ∧ -128 ≤ c.2 ∧ c.2 ≤ 127 := by simp only [InB] at hx; omega
  have ht := l02Told_gives l c hx s
  by_cases h0 : toldC w h g c s = 0
  · obtain ⟨hs, hH, hl, hlt⟩ := told_ok h0
    by_cases hO : OpnW w h g c s
    · have hg : goneC w h g c s = 0 := by unfold goneC; rw [if_pos h0, if_pos hO]
      have hc := l02Come_gives l ⟨by omega, by omega⟩ s hl hlt c hx2 (s.length + 1) (Nat.le_refl _) (fun j hj => hO j hj) (fun hh => by omega)
      rw [decide_eq_true rfl, Nat.add_sub_cancel] at hc
      rw [if_pos hg]
      refine Gives.by rfl rfl (W.seq ?_)
      repeat' first | ((with_reducible apply WR.c_s (f := 78) (fn := Code.f78)); (iterate 3 exact rfl); exact rfl; (focus ((repeat' first | exact args_nil | apply args_d | exact toD_d rfl | exact all_nil | apply all_cons | exact rfl); done)); exact ht) | ((with_reducible apply WR.c_os (f := 79) (fn := Code.f79)); (iterate 3 exact rfl); exact rfl; (focus ((repeat' first | exact args_nil | apply args_d | exact toD_d rfl | exact all_nil | apply all_cons | exact rfl); done)); exact hc; exact rfl) | ((with_reducible apply WR.mv); exact rfl; exact rfl) | ((with_reducible first | apply WR.mvt | apply WR.ex | apply WR.un); exact rfl; exact rfl) | (with_reducible first | apply WR.nil | refine andThen_n ?_ | refine W.seq ?_ | refine W.region ?_ | refine W.skip ?_ | refine W.ret ?_) | ((with_reducible apply W.condF); exact rfl) | ((with_reducible apply Done.f); (intro hh hh2; exact (nomatch hh2)); (focus ((repeat' first | exact all_nil | apply all_cons | exact res_tmp rfl | exact rfl); done)); (focus ((repeat' first | exact all_nil | apply all_cons | exact retOf_s rfl | exact retOf_o rfl rfl (by first | exact encC_length _ | exact rfl) | exact rfl); done)); exact rfl; (focus ((repeat' first | exact outs_nil | apply outs_d | exact rfl); done))) | (intro hb; try (exfalso; omega)) | ((with_reducible apply WR.ld); (iterate 3 exact rfl); (exact ld2)) | ((with_reducible apply WR.neq); iterate 3 exact rfl) | ((with_reducible apply WR.bx); exact rfl; exact rfl; exact (by first | exact encC_length _ | exact rfl); exact rfl)
      all_goals first | rfl | exact absurd (by assumption) h0 | trace_state
    · have hg : goneC w h g c s = 4 := by unfold goneC; rw [if_pos h0, if_neg hO]
      obtain ⟨k, hk, hkn, hkp⟩ := first_bad (p := fun j => Opn w h g (at_ s c j).1 (at_ s c j).2) s.length (fun hh => hO (fun j hj => hh j (by omega)))
      have hc := l02Come_gives l ⟨by omega, by omega⟩ s hl hlt c hx2 k (by omega) hkp (fun _ => hkn)
      rw [decide_eq_false (by omega)] at hc
      rw [if_neg (by omega), hg]
      refine Gives.by rfl rfl (W.seq ?_)
      repeat' first | ((with_reducible apply WR.c_s (f := 78) (fn := Code.f78)); (iterate 3 exact rfl); exact rfl; (focus ((repeat' first | exact args_nil | apply args_d | exact toD_d rfl | exact all_nil | apply all_cons | exact rfl); done)); exact ht) | ((with_reducible apply WR.c_os (f := 79) (fn := Code.f79)); (iterate 3 exact rfl); exact rfl; (focus ((repeat' first | exact args_nil | apply args_d | exact toD_d rfl | exact all_nil | apply all_cons | exact rfl); done)); exact hc; exact rfl) | ((with_reducible apply WR.mv); exact rfl; exact rfl) | ((with_reducible first | apply WR.mvt | apply WR.ex | apply WR.un); exact rfl; exact rfl) | (with_reducible first | apply WR.nil | refine andThen_n ?_ | refine andThen_r ?_ | refine W.seq ?_ | refine W.region ?_ | refine W.skip ?_ | refine W.ret ?_) | ((with_reducible apply W.condT); exact rfl) | ((with_reducible apply W.condF); exact rfl) | ((with_reducible apply Done.f); (intro hh hh2; exact (nomatch hh2)); (focus ((repeat' first | exact all_nil | apply all_cons | exact res_tmp rfl | exact rfl); done)); (focus ((repeat' first | exact all_nil | apply all_cons | exact retOf_s rfl | exact retOf_o rfl rfl (by first | exact encC_length _ | exact rfl) | exact rfl); done)); exact rfl; (focus ((repeat' first | exact outs_nil | apply outs_d | exact rfl); done))) | (intro hb; try (exfalso; omega)) | ((with_reducible apply WR.ld); (iterate 3 exact rfl); (exact ld2)) | ((with_reducible apply WR.bs0); exact rfl; exact rfl) | ((with_reducible apply WR.neq); iterate 3 exact rfl) | ((with_reducible apply WR.bx); exact rfl; exact rfl; exact (by first | exact encC_length _ | exact rfl); exact rfl)
      all_goals first | rfl | exact absurd (by assumption) h0 | trace_state
  · have hg : goneC w h g c s = toldC w h g c s := by unfold goneC; rw [if_neg h0]
    rw [hg, if_neg h0]
    refine Gives.by rfl rfl (W.seq ?_)
    repeat' first | ((with_reducible apply WR.c_s (f := 78) (fn := Code.f78)); (iterate 3 exact rfl); exact rfl; (focus ((repeat' first | exact args_nil | apply args_d | exact toD_d rfl | exact all_nil | apply all_cons | exact rfl); done)); exact ht) | ((with_reducible apply WR.mv); exact rfl; exact rfl) | (with_reducible first | apply WR.nil | refine andThen_n ?_ | refine andThen_r ?_ | refine W.seq ?_ | refine W.region ?_ | refine W.ret ?_) | ((with_reducible apply W.condT); exact rfl) | ((with_reducible apply Done.f); (intro hh hh2; exact (nomatch hh2)); (focus ((repeat' first | exact all_nil | apply all_cons | exact res_tmp rfl | exact rfl); done)); (focus ((repeat' first | exact all_nil | apply all_cons | exact retOf_s rfl | exact retOf_o rfl rfl (by first | exact encC_length _ | exact rfl) | exact rfl); done)); exact rfl; (focus ((repeat' first | exact outs_nil | apply outs_d | exact rfl); done))) | (intro hb; try (exfalso; omega)) | ((with_reducible apply WR.ld); (iterate 3 exact rfl); (exact ld2)) | ((with_reducible apply WR.bs0); exact rfl; exact rfl) | ((with_reducible apply WR.neq); iterate 3 exact rfl) | ((with_reducible apply WR.bx); exact rfl; exact rfl; exact (by first | exact encC_length _ | exact rfl); exact rfl)
    all_goals first | rfl | exact absurd (by assumption) h0 | trace_state
theorem walked_gives (l : IsLawn w h g cs) (c : Cel) (s : List UInt8) :
    Gives G 81 [aa cs, ac c.1 c.2, .d (.s (.str s))] (if goneC w h g c s = 0 then ⟨[.own (trk s c s.length).length 2 (encC (trk s c s.length)), .s (.int .i64 0)], []⟩ else ⟨[.s .nils, .s (.int .i64 (goneC w h g c s))], []⟩) := by
  have hcc := cellsCode_gives l [c] (by simp)
  have e : belowCode (LawnOk w h g) (∀ e ∈ ([c] : List Cel), Has w h e.1 e.2) True = firstC w h g c := belowCode_congr Iff.rfl (by simp) Iff.rfl
  rw [e] at hcc
  have hw := wayCode_gives s
  have htd : toldC w h g c s = if firstC w h g c = 0 then wayC s else firstC w h g c := rfl
  by_cases h0 : toldC w h g c s = 0
  · obtain ⟨hs, hH, hl, hlt⟩ := told_ok h0
    have hf0 : firstC w h g c = 0 := by
      by_cases hf : firstC w h g c = 0
      · exact hf
      · rw [htd, if_neg hf] at h0; exact absurd h0 hf
    rw [htd, if_pos hf0] at h0
    rw [hf0] at hcc
    rw [h0] at hw
    by_cases hO : OpnW w h g c s
    · have hg : goneC w h g c s = 0 := by unfold goneC; rw [htd, if_pos hf0, if_pos h0, if_pos hO]
      obtain ⟨m, b, hc, hb1, hb2⟩ := cellsBy_gives l ⟨by omega, by omega⟩ s hl hlt c hH (s.length + 1) ⟨by omega, Nat.le_refl _⟩ (fun j _ hj => hO j hj) (fun hh => by omega)
      obtain rfl : b = true := hb1.2 ⟨rfl, hO 0 (by omega)⟩
      obtain rfl := hb2 rfl
      rw [if_pos hg]
      refine Gives.by rfl rfl (W.seq ?_)
      repeat' first | ((with_reducible apply WR.c_s (f := 74) (fn := Code.f74)); (iterate 3 exact rfl); exact rfl; (focus ((repeat' first | exact args_nil | apply args_d | exact toD_d rfl | exact toD_slC rfl rfl (by first | exact rfl) | exact all_nil | apply all_cons | exact rfl); done)); exact hcc) | ((with_reducible apply WR.c_s (f := 111) (fn := Code.f111)); (iterate 3 exact rfl); exact rfl; (focus ((repeat' first | exact args_nil | apply args_d | exact toD_d rfl | exact toD_slC rfl rfl (by first | exact rfl) | exact all_nil | apply all_cons | exact rfl); done)); exact hw) | ((with_reducible apply WR.c_os (f := 112) (fn := Code.f112)); (iterate 3 exact rfl); exact rfl; (focus ((repeat' first | exact args_nil | apply args_d | exact toD_d rfl | exact toD_slC rfl rfl (by first | exact rfl) | exact all_nil | apply all_cons | exact rfl); done)); exact hc; exact rfl) | ((with_reducible apply WR.mv); exact rfl; exact rfl) | ((with_reducible first | apply WR.mvt | apply WR.ex | apply WR.un); exact rfl; exact rfl) | ((with_reducible apply WR.ld); (iterate 3 exact rfl); (first | exact ld2 | exact loadC_all (IsLawn.len (by assumption)))) | (with_reducible first | apply WR.nil | refine andThen_n ?_ | refine W.seq ?_ | refine W.region ?_ | refine W.skip ?_ | refine W.ret ?_) | ((with_reducible apply W.condT); exact rfl) | ((with_reducible apply W.condF); exact rfl) | ((with_reducible apply Done.f); (intro hh hh2; exact (nomatch hh2)); (focus ((repeat' first | exact all_nil | apply all_cons | exact res_tmp rfl | exact rfl); done)); (focus ((repeat' first | exact all_nil | apply all_cons | exact retOf_s rfl | exact retOf_o rfl rfl (by first | exact encC_length _ | exact IsLawn.len (by assumption) | exact rfl) | exact rfl); done)); exact rfl; (focus ((repeat' first | exact outs_nil | apply outs_d | exact rfl); done))) | (intro hb; try (exfalso; omega)) | ((with_reducible apply WR.bx); exact rfl; exact rfl; exact (by first | exact encC_length _ | exact IsLawn.len (by assumption) | exact rfl); exact rfl) | ((with_reducible first | apply WR.eql | apply WR.neq); iterate 3 exact rfl) | ((with_reducible apply WR.bs1); exact rfl; exact rfl; exact rfl)
      all_goals first | rfl | exact absurd (by assumption) h0 | trace_state
    · have hg : goneC w h g c s = 4 := by unfold goneC; rw [htd, if_pos hf0, if_pos h0, if_neg hO]
      have hex : ∃ m, Gives G 112 [aa cs, ac c.1 c.2, .d (.s (.str s))] ⟨[.own (trk s c m).length 2 (encC (trk s c m)), .s (.bool false)], []⟩ := by
        by_cases hA : ∀ j, 1 ≤ j → j < s.length + 1 → Opn w h g (at_ s c j).1 (at_ s c j).2
        · obtain ⟨m, b, hc, hb1, hb2⟩ := cellsBy_gives l ⟨by omega, by omega⟩ s hl hlt c hH (s.length + 1) ⟨by omega, Nat.le_refl _⟩ hA (fun hh => by omega)
          have hbf : b = false := by
            cases b
            · rfl
            · exact absurd (fun j hj => by
                by_cases hj0 : j = 0
                · subst hj0; exact (hb1.1 rfl).2
                · exact hA j (by omega) hj) hO
          subst hbf
          exact ⟨m, hc⟩
        · obtain ⟨k, hk, hkn, hkp⟩ := first_bad (p := fun j => 1 ≤ j → Opn w h g (at_ s c j).1 (at_ s c j).2) s.length (fun hh => hA (fun j h1 hj => hh j (by omega) h1))
          have hk1 : 1 ≤ k := by
            by_cases hk0 : k = 0
            · subst hk0; exact absurd (fun h => by omega) hkn
            · omega
          obtain ⟨m, b, hc, hb1, hb2⟩ := cellsBy_gives l ⟨by omega, by omega⟩ s hl hlt c hH k ⟨hk1, by omega⟩ (fun j h1 hj => hkp j hj h1) (fun _ hh => hkn fun _ => hh)
          have hbf : b = false := by
            cases b
            · rfl
            · have := (hb1.1 rfl).1; omega
          subst hbf
          exact ⟨m, hc⟩
      obtain ⟨m, hc⟩ := hex
      rw [if_neg (by omega), hg]
      refine Gives.by rfl rfl (W.seq ?_)
      repeat' first | ((with_reducible apply WR.c_s (f := 74) (fn := Code.f74)); (iterate 3 exact rfl); exact rfl; (focus ((repeat' first | exact args_nil | apply args_d | exact toD_d rfl | exact toD_slC rfl rfl (by first | exact rfl) | exact all_nil | apply all_cons | exact rfl); done)); exact hcc) | ((with_reducible apply WR.c_s (f := 111) (fn := Code.f111)); (iterate 3 exact rfl); exact rfl; (focus ((repeat' first | exact args_nil | apply args_d | exact toD_d rfl | exact toD_slC rfl rfl (by first | exact rfl) | exact all_nil | apply all_cons | exact rfl); done)); exact hw) | ((with_reducible apply WR.c_os (f := 112) (fn := Code.f112)); (iterate 3 exact rfl); exact rfl; (focus ((repeat' first | exact args_nil | apply args_d | exact toD_d rfl | exact toD_slC rfl rfl (by first | exact rfl) | exact all_nil | apply all_cons | exact rfl); done)); exact hc; exact rfl) | ((with_reducible apply WR.mv); exact rfl; exact rfl) | ((with_reducible first | apply WR.mvt | apply WR.ex | apply WR.un); exact rfl; exact rfl) | ((with_reducible apply WR.ld); (iterate 3 exact rfl); (first | exact ld2 | exact loadC_all (IsLawn.len (by assumption)))) | (with_reducible first | apply WR.nil | refine andThen_n ?_ | refine andThen_r ?_ | refine W.seq ?_ | refine W.region ?_ | refine W.skip ?_ | refine W.ret ?_) | ((with_reducible apply W.condT); exact rfl) | ((with_reducible apply W.condF); exact rfl) | ((with_reducible apply Done.f); (intro hh hh2; exact (nomatch hh2)); (focus ((repeat' first | exact all_nil | apply all_cons | exact res_tmp rfl | exact rfl); done)); (focus ((repeat' first | exact all_nil | apply all_cons | exact retOf_s rfl | exact rfl); done)); exact rfl; (focus ((repeat' first | exact outs_nil | apply outs_d | exact rfl); done))) | (intro hb; try (exfalso; omega)) | ((with_reducible apply WR.bx); exact rfl; exact rfl; exact (by first | exact IsLawn.len (by assumption) | exact rfl); exact rfl) | ((with_reducible first | apply WR.eql | apply WR.neq); iterate 3 exact rfl) | ((with_reducible apply WR.bs1); exact rfl; exact rfl; exact rfl)
      all_goals first | rfl | exact absurd (by assumption) h0 | trace_state
  · have hg : goneC w h g c s = toldC w h g c s := by unfold goneC; rw [if_neg h0]
    rw [hg, if_neg h0]
    refine Gives.by rfl rfl (W.seq ?_)
    by_cases hf0 : firstC w h g c = 0
    · rw [htd, if_pos hf0] at h0 ⊢
      rw [hf0] at hcc
      repeat' first | ((with_reducible apply WR.c_s (f := 74) (fn := Code.f74)); (iterate 3 exact rfl); exact rfl; (focus ((repeat' first | exact args_nil | apply args_d | exact toD_d rfl | exact toD_slC rfl rfl (by first | exact rfl) | exact all_nil | apply all_cons | exact rfl); done)); exact hcc) | ((with_reducible apply WR.c_s (f := 111) (fn := Code.f111)); (iterate 3 exact rfl); exact rfl; (focus ((repeat' first | exact args_nil | apply args_d | exact toD_d rfl | exact toD_slC rfl rfl (by first | exact rfl) | exact all_nil | apply all_cons | exact rfl); done)); exact hw) | ((with_reducible apply WR.mv); exact rfl; exact rfl) | ((with_reducible apply WR.ld); (iterate 3 exact rfl); (first | exact ld2 | exact loadC_all (IsLawn.len (by assumption)))) | (with_reducible first | apply WR.nil | refine andThen_n ?_ | refine andThen_r ?_ | refine W.seq ?_ | refine W.region ?_ | refine W.ret ?_) | ((with_reducible apply W.condT); exact rfl) | ((with_reducible apply Done.f); (intro hh hh2; exact (nomatch hh2)); (focus ((repeat' first | exact all_nil | apply all_cons | exact res_tmp rfl | exact rfl); done)); (focus ((repeat' first | exact all_nil | apply all_cons | exact retOf_s rfl | exact rfl); done)); exact rfl; (focus ((repeat' first | exact outs_nil | apply outs_d | exact rfl); done))) | (intro hb; try (exfalso; omega)) | ((with_reducible apply WR.bx); exact rfl; exact rfl; exact (by first | exact IsLawn.len (by assumption) | exact rfl); exact rfl) | ((with_reducible first | apply WR.eql | apply WR.neq); iterate 3 exact rfl) | ((with_reducible apply WR.bs1); exact rfl; exact rfl; exact rfl)
      all_goals first | rfl | exact absurd (by assumption) h0 | trace_state
    · rw [htd, if_neg hf0]
      repeat' first | ((with_reducible apply WR.c_s (f := 74) (fn := Code.f74)); (iterate 3 exact rfl); exact rfl; (focus ((repeat' first | exact args_nil | apply args_d | exact toD_d rfl | exact toD_slC rfl rfl (by first | exact rfl) | exact all_nil | apply all_cons | exact rfl); done)); exact hcc) | ((with_reducible apply WR.mv); exact rfl; exact rfl) | ((with_reducible apply WR.ld); (iterate 3 exact rfl); (first | exact ld2 | exact loadC_all (IsLawn.len (by assumption)))) | (with_reducible first | apply WR.nil | refine andThen_n ?_ | refine andThen_r ?_ | refine W.seq ?_ | refine W.region ?_ | refine W.skip ?_ | refine W.ret ?_) | ((with_reducible apply W.condT); exact rfl) | ((with_reducible apply W.condF); exact rfl) | ((with_reducible apply Done.f); (intro hh hh2; exact (nomatch hh2)); (focus ((repeat' first | exact all_nil | apply all_cons | exact res_tmp rfl | exact rfl); done)); (focus ((repeat' first | exact all_nil | apply all_cons | exact retOf_s rfl | exact rfl); done)); exact rfl; (focus ((repeat' first | exact outs_nil | apply outs_d | exact rfl); done))) | (intro hb; try (exfalso; omega)) | ((with_reducible apply WR.bx); exact rfl; exact rfl; exact (by first | exact IsLawn.len (by assumption) | exact rfl); exact rfl) | ((with_reducible first | apply WR.eql | apply WR.neq); iterate 3 exact rfl) | ((with_reducible apply WR.bs1); exact rfl; exact rfl; exact rfl)
      all_goals first | rfl | exact absurd (by assumption) h0 | trace_state
end Go.DM

/- Stripes of a way: both sides. -/
set_option maxHeartbeats 4000000
namespace Go.DM
variable [Tok]
open Go.IntWalk
variable {w h : Int} {g : Nat → Int} {cs : List S}
end Go.DM

/- Where two robots meet: both sides, the statement. -/
set_option maxHeartbeats 4000000
namespace Go.DM
variable [Tok]
open Go.IntWalk
variable {w h : Int} {g : Nat → Int} {cs : List S}
theorem ix_inj (hs : w ≤ 10 ∧ h ≤ 10) {a b : Cel} (ha : Has w h a.1 a.2) (hb : Has w h b.1 b.2) (e : ix a = ix b) : a = b := by
  simp only [Has] at ha hb
  simp only [ix] at e
  exact Prod.ext (by omega) (by omega)
def meet (X Y : Nat → Int) (s : Cel × Int) (c : Cel) : Cel × Int := if (0 ≤ X (ix c) ∧ 0 ≤ Y (ix c)) ∧ (s.2 < 0 ∨ max (X (ix c)) (Y (ix c)) < s.2) then (c, max (X (ix c)) (Y (ix c))) else s
end Go.DM
