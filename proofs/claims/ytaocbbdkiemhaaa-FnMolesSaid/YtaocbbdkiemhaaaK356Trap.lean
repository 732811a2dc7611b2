/- The best trap: counting, codes. -/
import Derived.Test.YtaocbbdkiemhaaaK356Those
import Derived.Test.YtaocbbdkiemhaaaK356Index
set_option linter.unusedSimpArgs false
set_option linter.unusedVariables false
set_option maxHeartbeats 4000000
namespace Go.DM
set_option linter.unusedSectionVars false
variable [Tok]
open Go.IntWalk
variable {w h : Int} {g : Nat → Int} {cs : List S} {q : Nat → Int} {qs : List S}
/-- Each cell once, where it stands first. -/
def dd (L : List Cel) : List Cel := L.foldl (fun D c => if c ∈ D then D else D ++ [c]) []
theorem dd_snoc' (L : List Cel) (c : Cel) : dd (L ++ [c]) = if c ∈ dd L then dd L else dd L ++ [c] := by
  unfold dd; rw [List.foldl_append]; rfl
theorem dd_mem : ∀ (n : Nat) (L : List Cel), L.length = n → (∀ c, c ∈ dd L ↔ c ∈ L) ∧ (dd L).length ≤ n
  | 0, L, hl => by obtain rfl := List.eq_nil_of_length_eq_zero hl; exact ⟨fun c => Iff.rfl, Nat.le_refl _⟩
  | n + 1, L, hl => by
    have hne : L ≠ [] := fun e => by rw [e] at hl; cases hl
    have e := List.dropLast_concat_getLast hne
    obtain ⟨ih1, ih2⟩ := dd_mem n L.dropLast (by simp [hl])
    rw [← e, dd_snoc']
    by_cases hc : L.getLast hne ∈ dd L.dropLast
    · rw [if_pos hc]
      refine ⟨fun c => ?_, by omega⟩
      rw [ih1, List.mem_append, List.mem_singleton]
      refine ⟨.inl, fun hh => hh.elim id fun e => ?_⟩
      rw [e]; exact (ih1 _).1 hc
    · rw [if_neg hc]
      refine ⟨fun c => ?_, by simp; omega⟩
      rw [List.mem_append, List.mem_append, ih1]
theorem dd_snoc (L : List Cel) (c : Cel) : dd (L ++ [c]) = if c ∈ L then dd L else dd L ++ [c] := by
  have h := (dd_mem _ L rfl).1 c
  rw [dd_snoc']
  by_cases hc : c ∈ L
  · rw [if_pos (h.2 hc), if_pos hc]
  · rw [if_neg (fun hh => hc (h.1 hh)), if_neg hc]
theorem mostF_fold (f : Cel → Int) (p : Cel → Bool) : ∀ (A : List Cel) (s0 : Cel × Int), 0 ≤ s0.2 → (∀ c ∈ A, p c = false → f c ≤ 0) →
    A.foldl (fun s c => if s.2 < f c then (c, f c) else s) s0 = (A.filter p).foldl (fun s c => if s.2 < f c then (c, f c) else s) s0
  | [], _, _, _ => rfl
  | c :: r, s0, h0, h => by
    have hr := fun d hd => h d (List.mem_cons_of_mem c hd)
    cases hp : p c with
    | true =>
      rw [List.filter_cons_of_pos hp, List.foldl_cons, List.foldl_cons]
      exact mostF_fold f p r _ (by split <;> omega) hr
    | false =>
      have := h c (List.mem_cons_self ..) hp
      rw [List.filter_cons_of_neg (by simp [hp]), List.foldl_cons, if_neg (by omega)]
      exact mostF_fold f p r _ h0 hr
theorem mostF_filter {f : Cel → Int} {p : Cel → Bool} {A : List Cel} (h : ∀ c ∈ A, p c = false → f c ≤ 0) : mostF f A = mostF f (A.filter p) := mostF_fold f p A _ (Int.le_refl _) h
theorem mostF_ge (f : Cel → Int) : ∀ (n : Nat) (A : List Cel), A.length = n → ∀ c ∈ A, f c ≤ (mostF f A).2
  | 0, A, hl, c, hc => by obtain rfl := List.eq_nil_of_length_eq_zero hl; cases hc
  | n + 1, A, hl, c, hc => by
    have hne : A ≠ [] := fun e => by rw [e] at hl; cases hl
    have e := List.dropLast_concat_getLast hne
    have ih := mostF_ge f n A.dropLast (by simp [hl])
    rw [← e] at hc ⊢
    rw [mostF_snoc]
    rw [List.mem_append, List.mem_singleton] at hc
    rcases hc with hc | rfl
    · have := ih c hc
      split
      · show f c ≤ f _
        omega
      · exact this
    · split
      · exact Int.le_refl _
      · omega
theorem cntL_zero {L : List Cel} {c : Cel} (h : c ∉ L) : cntL L c = 0 := by
  induction L with
  | nil => rfl
  | cons d r ih =>
    simp only [List.mem_cons, not_or] at h
    simp only [cntL, if_neg (Ne.symm h.1), ih h.2]; rfl
theorem cntL_pos {L : List Cel} {c : Cel} (h : c ∈ L) : 1 ≤ cntL L c := by
  induction L with
  | nil => cases h
  | cons d r ih =>
    have hb := cntL_b r c
    rcases List.mem_cons.1 h with rfl | h
    · simp only [cntL, if_true]; omega
    · have := ih h
      simp only [cntL]; split <;> omega
theorem goes_is {q : Nat → Int} {a b : Cel} (ha : Is w h g 0 a.1 a.2) : Is w h g 0 (goes w h g q a b).1 (goes w h g q a b).2 := by
  have key : ∀ c, c ∈ (if 1 < (kept (fun c => ¬ Is w h g 0 c.1 c.2) (Near a.1 a.2)).length then kept (fun c => c.1 = b.1 ∧ c.2 = b.2) (kept (fun c => ¬ Is w h g 0 c.1 c.2) (Near a.1 a.2)) else kept (fun c => ¬ Is w h g 0 c.1 c.2) (Near a.1 a.2)) → Is w h g 0 c.1 c.2 := fun c hc => by
    have h1 : c ∈ kept (fun c => ¬ Is w h g 0 c.1 c.2) (Near a.1 a.2) := by
      split at hc
      · exact (kept_mem hc).1
      · exact hc
    exact Decidable.not_not.1 (kept_mem h1).2
  unfold goes
  rcases lowest_mem q a (if 1 < (kept (fun c => ¬ Is w h g 0 c.1 c.2) (Near a.1 a.2)).length then kept (fun c => c.1 = b.1 ∧ c.2 = b.2) (kept (fun c => ¬ Is w h g 0 c.1 c.2) (Near a.1 a.2)) else kept (fun c => ¬ Is w h g 0 c.1 c.2) (Near a.1 a.2)) with e | e
  · simp only [e]; exact ha
  · exact key _ e
theorem after_is {m : Mole} (ha : Is w h g 0 m.a.1 m.a.2) : ∀ n, Is w h g 0 (m.after w h g n).a.1 (m.after w h g n).a.2
  | 0 => ha
  | n + 1 => by
    have ih := after_is ha n
    exact goes_is ih
theorem path_is {m : Mole} (ha : Is w h g 0 m.a.1 m.a.2) : ∀ n, ∀ c ∈ m.path w h g n, Is w h g 0 c.1 c.2
  | 0, c, hc => by
    simp only [Mole.path, List.mem_singleton] at hc
    subst hc; exact ha
  | n + 1, c, hc => by
    simp only [Mole.path, List.mem_append, List.mem_singleton] at hc
    rcases hc with hc | hc
    · exact path_is ha n c hc
    · subst hc; exact after_is ha (n + 1)
theorem path_head (m : Mole) : ∀ n, m.a ∈ m.path w h g n
  | 0 => by simp [Mole.path]
  | n + 1 => by simp only [Mole.path]; exact List.mem_append_left _ (path_head m n)
/-! Codes with no cells. -/
abbrev nl : Arg := .d (.s .nils)
theorem indexFunc0_gives {f : Nat} {z : D} : Gives G 99 [nl, .d (.clo f [] [z])] (ri .i64 (-1)) := by
  refine Gives.by rfl rfl (W.seq ?_)
  repeat' first | (with_reducible refine W.loop ?_) | ((with_reducible apply WR.mv); exact rfl; exact rfl) | ((with_reducible apply WR.nil)) | (with_reducible refine andThen_n ?_) | (with_reducible refine andThen_x ?_) | (with_reducible refine inB_x ?_) | (with_reducible refine W.seq ?_) | (with_reducible refine W.region ?_) | (with_reducible refine W.ret ?_) | (with_reducible refine W.exit ?_) | (with_reducible refine W.block ?_) | ((with_reducible apply W.condF); exact rfl) | ((with_reducible apply Done.f); (intro hh hh2; exact (nomatch hh2)); (focus ((repeat' first | exact all_nil | apply all_cons | exact res_tmp rfl); done)); (focus ((repeat' first | exact all_nil | apply all_cons | exact retOf_s rfl); done)); exact rfl; (focus ((repeat' first | exact outs_nil | apply outs_d); done))) | (intro hb; try (exfalso; omega)) | ((with_reducible apply WR.lss); exact rfl; exact rfl; exact rfl) | ((with_reducible apply WR.le); exact rfl; exact rfl)
  all_goals rfl
theorem containsFunc0_gives {f : Nat} {z : D} : Gives G 75 [nl, .d (.clo f [] [z])] (rb false) := by
  have h := indexFunc0_gives (f := f) (z := z)
  refine Gives.by rfl rfl (W.seq ?_)
  repeat' first | ((with_reducible apply WR.c_s (f := 99) (fn := Code.f99)); exact rfl; exact rfl; exact rfl; (first | exact rfl); (focus ((repeat' first | exact args_nil | apply args_d | exact toD_d rfl | exact all_nil | apply all_cons | exact rfl); done)); exact h) | ((with_reducible apply WR.mv); exact rfl; exact rfl) | ((with_reducible apply WR.nil)) | (with_reducible refine andThen_n ?_) | (with_reducible refine W.seq ?_) | (with_reducible refine W.region ?_) | (with_reducible refine W.ret ?_) | ((with_reducible apply Done.f); (intro hh hh2; exact (nomatch hh2)); (focus ((repeat' first | exact all_nil | apply all_cons | exact res_tmp rfl | exact rfl); done)); (focus ((repeat' first | exact all_nil | apply all_cons | exact retOf_s rfl | exact rfl); done)); exact rfl; (focus ((repeat' first | exact outs_nil | apply outs_d | exact rfl); done))) | (intro hb; try (exfalso; omega)) | ((with_reducible apply WR.geq); exact rfl; exact rfl; exact rfl)
  all_goals rfl
def lawnCode (w h : Int) (g : Nat → Int) : Int := if LawnOk w h g then 0 else 1
def levCode (w h : Int) (g q : Nat → Int) : Int := if LevOk w h g q then 0 else 1
def trapCode (w h : Int) (g q : Nat → Int) (n : Int) : Int := if LevOk w h g q then (if 0 ≤ n ∧ n ≤ 60 then 0 else 2) else 1
theorem cellsCode0_gives (l : IsLawn w h g cs) : Gives G 74 [aa cs, nl] (ri .i64 (lawnCode w h g)) := by
  have h1 := validLawn_gives l
  have h2 := containsFunc0_gives (f := 106) (z := .ref cs)
  unfold lawnCode
  refine Gives.by rfl rfl (W.seq ?_)
  by_cases hL : LawnOk w h g
  · rw [decide_eq_true hL] at h1
    rw [if_pos hL]
    repeat' first | ((with_reducible apply WR.c_s (f := 30) (fn := Code.f30)); exact rfl; exact rfl; exact rfl; (first | exact rfl); (focus ((repeat' first | exact args_nil | apply args_d | exact toD_d rfl | exact toD_ptr rfl rfl | (apply toD_clo; exact rfl) | exact all_nil | apply all_cons | exact rfl); done)); exact h1) | ((with_reducible apply WR.c_s (f := 75) (fn := Code.f75)); exact rfl; exact rfl; exact rfl; (first | exact rfl); (focus ((repeat' first | exact args_nil | apply args_d | exact toD_d rfl | exact toD_ptr rfl rfl | (apply toD_clo; exact rfl) | exact all_nil | apply all_cons | exact rfl); done)); exact h2) | ((with_reducible apply WR.mv); exact rfl; exact rfl) | ((with_reducible apply WR.nil)) | (with_reducible refine andThen_n ?_) | (with_reducible refine inB_n ?_) | (with_reducible refine W.seq ?_) | (with_reducible refine W.region ?_) | (with_reducible refine W.skip ?_) | (with_reducible refine W.ret ?_) | (with_reducible refine W.block ?_) | ((with_reducible apply W.condF); exact rfl) | ((with_reducible apply Done.f); (intro hh hh2; exact (nomatch hh2)); (focus ((repeat' first | exact all_nil | apply all_cons | exact res_tmp rfl | exact rfl); done)); (focus ((repeat' first | exact all_nil | apply all_cons | exact retOf_s rfl | exact rfl); done)); exact rfl; (focus ((repeat' first | exact outs_nil | apply outs_d | exact rfl); done))) | ((with_reducible apply WR.bx); exact rfl; exact rfl; exact (by first | exact IsLawn.len (by assumption) | exact rfl); (first | exact rfl)) | ((with_reducible apply WR.ld); exact rfl; exact rfl; exact rfl; (first | exact loadC_all (IsLawn.len (by assumption)))) | ((with_reducible apply WR.mf); exact rfl; exact rfl) | ((with_reducible apply WR.un); exact rfl; exact rfl)
    all_goals rfl
  · rw [decide_eq_false hL] at h1
    rw [if_neg hL]
    repeat' first | ((with_reducible apply WR.c_s (f := 30) (fn := Code.f30)); exact rfl; exact rfl; exact rfl; (first | exact rfl); (focus ((repeat' first | exact args_nil | apply args_d | exact toD_d rfl | exact all_nil | apply all_cons | exact rfl); done)); exact h1) | ((with_reducible apply WR.mv); exact rfl; exact rfl) | ((with_reducible apply WR.nil)) | (with_reducible refine andThen_n ?_) | (with_reducible refine andThen_r ?_) | (with_reducible refine inB_r ?_) | (with_reducible refine W.seq ?_) | (with_reducible refine W.region ?_) | (with_reducible refine W.ret ?_) | (with_reducible refine W.block ?_) | ((with_reducible apply W.condT); exact rfl) | ((with_reducible apply Done.f); (intro hh hh2; exact (nomatch hh2)); (focus ((repeat' first | exact all_nil | apply all_cons | exact res_tmp rfl | exact rfl); done)); (focus ((repeat' first | exact all_nil | apply all_cons | exact retOf_s rfl | exact rfl); done)); exact rfl; (focus ((repeat' first | exact outs_nil | apply outs_d | exact rfl); done))) | ((with_reducible apply WR.bx); exact rfl; exact rfl; exact (by first | exact IsLawn.len (by assumption) | exact rfl); (first | exact rfl)) | ((with_reducible apply WR.ld); exact rfl; exact rfl; exact rfl; (first | exact loadC_all (IsLawn.len (by assumption)))) | ((with_reducible apply WR.un); exact rfl; exact rfl)
    all_goals rfl
theorem soilCode0_gives (l : IsLawn w h g cs) (v : IsLev q qs) : Gives G 55 [aa cs, aa qs, nl] (ri .i64 (levCode w h g q)) := by
  have h1 := validLevels_gives l v
  have h2 := cellsCode0_gives l
  unfold levCode
  refine Gives.by rfl rfl (W.seq ?_)
  by_cases hL : LevOk w h g q
  · rw [decide_eq_true hL] at h1
    rw [lawnCode, if_pos hL.1] at h2
    rw [if_pos hL]
    repeat' first | ((with_reducible apply WR.c_s (f := 94) (fn := Code.f94)); exact rfl; exact rfl; exact rfl; (first | exact rfl); (focus ((repeat' first | exact args_nil | apply args_d | exact toD_d rfl | exact all_nil | apply all_cons | exact rfl); done)); exact h1) | ((with_reducible apply WR.c_s (f := 74) (fn := Code.f74)); exact rfl; exact rfl; exact rfl; (first | exact rfl); (focus ((repeat' first | exact args_nil | apply args_d | exact toD_d rfl | exact all_nil | apply all_cons | exact rfl); done)); exact h2) | ((with_reducible apply WR.mv); exact rfl; exact rfl) | ((with_reducible apply WR.ld); exact rfl; exact rfl; exact rfl; (first | exact loadC_all (IsLawn.len (by assumption)) | exact loadC_all (IsLev.len (by assumption)))) | ((with_reducible apply WR.nil)) | (with_reducible refine andThen_n ?_) | (with_reducible refine W.seq ?_) | (with_reducible refine W.region ?_) | (with_reducible refine W.skip ?_) | (with_reducible refine W.ret ?_) | ((with_reducible apply W.condF); exact rfl) | ((with_reducible apply Done.f); (intro hh hh2; exact (nomatch hh2)); (focus ((repeat' first | exact all_nil | apply all_cons | exact res_tmp rfl | exact rfl); done)); (focus ((repeat' first | exact all_nil | apply all_cons | exact retOf_s rfl | exact rfl); done)); exact rfl; (focus ((repeat' first | exact outs_nil | apply outs_d | exact rfl); done))) | ((with_reducible apply WR.bx); exact rfl; exact rfl; exact (by first | exact IsLev.len (by assumption) | exact IsLawn.len (by assumption) | exact rfl); (first | exact rfl)) | ((with_reducible apply WR.un); exact rfl; exact rfl)
    all_goals rfl
  · rw [decide_eq_false hL] at h1
    rw [if_neg hL]
    repeat' first | ((with_reducible apply WR.c_s (f := 94) (fn := Code.f94)); exact rfl; exact rfl; exact rfl; (first | exact rfl); (focus ((repeat' first | exact args_nil | apply args_d | exact toD_d rfl | exact all_nil | apply all_cons | exact rfl); done)); exact h1) | ((with_reducible apply WR.mv); exact rfl; exact rfl) | ((with_reducible apply WR.ld); exact rfl; exact rfl; exact rfl; (first | exact loadC_all (IsLawn.len (by assumption)) | exact loadC_all (IsLev.len (by assumption)))) | ((with_reducible apply WR.nil)) | (with_reducible refine andThen_n ?_) | (with_reducible refine andThen_r ?_) | (with_reducible refine W.seq ?_) | (with_reducible refine W.region ?_) | (with_reducible refine W.ret ?_) | ((with_reducible apply W.condT); exact rfl) | ((with_reducible apply Done.f); (intro hh hh2; exact (nomatch hh2)); (focus ((repeat' first | exact all_nil | apply all_cons | exact res_tmp rfl | exact rfl); done)); (focus ((repeat' first | exact all_nil | apply all_cons | exact retOf_s rfl | exact rfl); done)); exact rfl; (focus ((repeat' first | exact outs_nil | apply outs_d | exact rfl); done))) | ((with_reducible apply WR.bx); exact rfl; exact rfl; exact (by first | exact IsLev.len (by assumption) | exact IsLawn.len (by assumption) | exact rfl); (first | exact rfl)) | ((with_reducible apply WR.un); exact rfl; exact rfl)
    all_goals rfl
theorem grassCode0_gives (l : IsLawn w h g cs) (hL : LawnOk w h g) : Gives G 45 [aa cs, nl] (ri .i64 0) := by
  have h1 := cellsCode0_gives l
  rw [lawnCode, if_pos hL] at h1
  have h2 := containsFunc0_gives (f := 87) (z := .ref cs)
  refine Gives.by rfl rfl (W.seq ?_)
  repeat' first | ((with_reducible apply WR.c_s (f := 74) (fn := Code.f74)); exact rfl; exact rfl; exact rfl; (first | exact rfl); (focus ((repeat' first | exact args_nil | apply args_d | exact toD_d rfl | exact toD_ptr rfl rfl | (apply toD_clo; exact rfl) | exact all_nil | apply all_cons | exact rfl); done)); exact h1) | ((with_reducible apply WR.c_s (f := 75) (fn := Code.f75)); exact rfl; exact rfl; exact rfl; (first | exact rfl); (focus ((repeat' first | exact args_nil | apply args_d | exact toD_d rfl | exact toD_ptr rfl rfl | (apply toD_clo; exact rfl) | exact all_nil | apply all_cons | exact rfl); done)); exact h2) | ((with_reducible apply WR.mv); exact rfl; exact rfl) | ((with_reducible apply WR.nil)) | (with_reducible refine andThen_n ?_) | (with_reducible refine W.seq ?_) | (with_reducible refine W.region ?_) | (with_reducible refine W.skip ?_) | (with_reducible refine W.ret ?_) | ((with_reducible apply W.condF); exact rfl) | ((with_reducible apply Done.f); (intro hh hh2; exact (nomatch hh2)); (focus ((repeat' first | exact all_nil | apply all_cons | exact res_tmp rfl | exact rfl); done)); (focus ((repeat' first | exact all_nil | apply all_cons | exact retOf_s rfl | exact rfl); done)); exact rfl; (focus ((repeat' first | exact outs_nil | apply outs_d | exact rfl); done))) | (intro hb; try (exfalso; omega)) | ((with_reducible apply WR.eql); exact rfl; exact rfl; exact rfl) | ((with_reducible apply WR.bx); exact rfl; exact rfl; exact (by first | exact IsLawn.len (by assumption) | exact rfl); (first | exact rfl)) | ((with_reducible apply WR.ld); exact rfl; exact rfl; exact rfl; (first | exact loadC_all (IsLawn.len (by assumption)))) | ((with_reducible apply WR.mf); exact rfl; exact rfl) | ((with_reducible apply WR.pk); exact rfl; exact rfl)
  all_goals rfl
theorem moleCode0_gives (l : IsLawn w h g cs) (v : IsLev q qs) (n : Int) : Gives G 25 [aa cs, aa qs, ai .i64 n, nl] (ri .i64 (trapCode w h g q n)) := by
  have h1 := soilCode0_gives l v
  unfold trapCode
  refine Gives.by rfl rfl (W.seq ?_)
  by_cases hL : LevOk w h g q
  · rw [levCode, if_pos hL] at h1
    have h2 := grassCode0_gives l hL.1
    rw [if_pos hL]
    by_cases hn : 0 ≤ n ∧ n ≤ 60
    · rw [if_pos hn]
      repeat' first | ((with_reducible apply WR.c_s (f := 55) (fn := Code.f55)); exact rfl; exact rfl; exact rfl; (first | exact rfl); (focus ((repeat' first | exact args_nil | apply args_d | exact toD_d rfl | exact all_nil | apply all_cons | exact rfl); done)); exact h1) | ((with_reducible apply WR.c_s (f := 45) (fn := Code.f45)); exact rfl; exact rfl; exact rfl; (first | exact rfl); (focus ((repeat' first | exact args_nil | apply args_d | exact toD_d rfl | exact all_nil | apply all_cons | exact rfl); done)); exact h2) | ((with_reducible apply WR.c_p (f := 56) (fn := Code.f56)); exact rfl; exact rfl; exact rfl; (first | exact rfl); (focus ((repeat' first | exact args_nil | apply args_d | exact toD_d rfl | exact all_nil | apply all_cons | exact rfl); done)); exact within_gives _ _ _) | ((with_reducible apply WR.mv); exact rfl; exact rfl) | ((with_reducible apply WR.ld); exact rfl; exact rfl; exact rfl; (first | exact loadC_all (IsLawn.len (by assumption)) | exact loadC_all (IsLev.len (by assumption)))) | ((with_reducible apply WR.nil)) | (with_reducible refine andThen_n ?_) | (with_reducible refine W.seq ?_) | (with_reducible refine W.region ?_) | (with_reducible refine W.skip ?_) | (with_reducible refine W.ret ?_) | ((with_reducible apply W.condT); exact rfl) | ((with_reducible apply W.condF); exact rfl) | ((with_reducible apply Done.f); (intro hh hh2; exact (nomatch hh2)); (focus ((repeat' first | exact all_nil | apply all_cons | exact res_tmp rfl | exact rfl); done)); (focus ((repeat' first | exact all_nil | apply all_cons | exact retOf_s rfl | exact rfl); done)); exact rfl; (focus ((repeat' first | exact outs_nil | apply outs_d | exact rfl); done))) | (intro hb; try (exfalso; omega)) | ((with_reducible apply WR.eql); exact rfl; exact rfl; exact rfl) | ((with_reducible apply WR.bx); exact rfl; exact rfl; exact (by first | exact IsLev.len (by assumption) | exact IsLawn.len (by assumption) | exact rfl); (first | exact rfl)) | ((with_reducible apply WR.un); exact rfl; exact rfl) | ((with_reducible apply WR.pk); exact rfl; exact rfl)
      all_goals first
        | (exfalso; omega)
        | rfl
    · rw [if_neg hn]
      repeat' first | ((with_reducible apply WR.c_s (f := 55) (fn := Code.f55)); exact rfl; exact rfl; exact rfl; (first | exact rfl); (focus ((repeat' first | exact args_nil | apply args_d | exact toD_d rfl | exact all_nil | apply all_cons | exact rfl); done)); exact h1) | ((with_reducible apply WR.c_p (f := 56) (fn := Code.f56)); exact rfl; exact rfl; exact rfl; (first | exact rfl); (focus ((repeat' first | exact args_nil | apply args_d | exact toD_d rfl | exact all_nil | apply all_cons | exact rfl); done)); exact within_gives _ _ _) | ((with_reducible apply WR.mv); exact rfl; exact rfl) | ((with_reducible apply WR.ld); exact rfl; exact rfl; exact rfl; (first | exact loadC_all (IsLawn.len (by assumption)) | exact loadC_all (IsLev.len (by assumption)))) | ((with_reducible apply WR.nil)) | (with_reducible refine andThen_n ?_) | (with_reducible refine W.seq ?_) | (with_reducible refine W.region ?_) | (with_reducible refine W.skip ?_) | (with_reducible refine W.ret ?_) | ((with_reducible apply W.condT); exact rfl) | ((with_reducible apply W.condF); exact rfl) | ((with_reducible apply Done.f); (intro hh hh2; exact (nomatch hh2)); (focus ((repeat' first | exact all_nil | apply all_cons | exact res_tmp rfl | exact rfl); done)); (focus ((repeat' first | exact all_nil | apply all_cons | exact retOf_s rfl | exact rfl); done)); exact rfl; (focus ((repeat' first | exact outs_nil | apply outs_d | exact rfl); done))) | (intro hb; try (exfalso; omega)) | ((with_reducible apply WR.eql); exact rfl; exact rfl; exact rfl) | ((with_reducible apply WR.bx); exact rfl; exact rfl; exact (by first | exact IsLev.len (by assumption) | exact IsLawn.len (by assumption) | exact rfl); (first | exact rfl)) | ((with_reducible apply WR.un); exact rfl; exact rfl) | ((with_reducible apply WR.pk); exact rfl; exact rfl)
      all_goals first
        | (exfalso; omega)
        | rfl
  · rw [levCode, if_neg hL] at h1
    rw [if_neg hL]
    repeat' first | ((with_reducible apply WR.c_s (f := 55) (fn := Code.f55)); exact rfl; exact rfl; exact rfl; (first | exact rfl); (focus ((repeat' first | exact args_nil | apply args_d | exact toD_d rfl | exact all_nil | apply all_cons | exact rfl); done)); exact h1) | ((with_reducible apply WR.mv); exact rfl; exact rfl) | ((with_reducible apply WR.ld); exact rfl; exact rfl; exact rfl; (first | exact loadC_all (IsLawn.len (by assumption)) | exact loadC_all (IsLev.len (by assumption)))) | ((with_reducible apply WR.nil)) | (with_reducible refine andThen_n ?_) | (with_reducible refine W.seq ?_) | (with_reducible refine W.region ?_) | (with_reducible refine W.skip ?_) | (with_reducible refine W.ret ?_) | ((with_reducible apply W.condF); exact rfl) | ((with_reducible apply Done.f); (intro hh hh2; exact (nomatch hh2)); (focus ((repeat' first | exact all_nil | apply all_cons | exact res_tmp rfl | exact rfl); done)); (focus ((repeat' first | exact all_nil | apply all_cons | exact retOf_s rfl | exact rfl); done)); exact rfl; (focus ((repeat' first | exact outs_nil | apply outs_d | exact rfl); done))) | (intro hb; try (exfalso; omega)) | ((with_reducible apply WR.eql); exact rfl; exact rfl; exact rfl) | ((with_reducible apply WR.bx); exact rfl; exact rfl; exact (by first | exact IsLev.len (by assumption) | exact IsLawn.len (by assumption) | exact rfl); (first | exact rfl)) | ((with_reducible apply WR.off); exact rfl) | ((with_reducible apply WR.pk); exact rfl; exact rfl)
    all_goals first
      | (exfalso; omega)
      | rfl
theorem l06Asked_gives (l : IsLawn w h g cs) (v : IsLev q qs) (n : Int) : Gives G 206 [ar cs, ar qs, .d (.s (.bool (decide (0 ≤ n ∧ n ≤ 60))))] (ri .i64 (trapCode w h g q n)) := by
  have h1 := l06Ok_gives l v
  unfold trapCode
  refine Gives.by rfl rfl (W.seq ?_)
  by_cases hL : LevOk w h g q
  · rw [decide_eq_true hL] at h1
    rw [if_pos hL]
    by_cases hn : 0 ≤ n ∧ n ≤ 60
    · rw [if_pos hn, decide_eq_true hn]
      repeat' first | ((with_reducible apply WR.c_s (f := 49) (fn := Code.f49)); exact rfl; exact rfl; exact rfl; (first | exact rfl); (focus ((repeat' first | exact args_nil | apply args_d | exact toD_d rfl | exact all_nil | apply all_cons | exact rfl); done)); exact h1) | ((with_reducible apply WR.mv); exact rfl; exact rfl) | ((with_reducible apply WR.nil)) | (with_reducible refine andThen_n ?_) | (with_reducible refine W.seq ?_) | (with_reducible refine W.region ?_) | (with_reducible refine W.skip ?_) | (with_reducible refine W.ret ?_) | ((with_reducible apply W.condF); exact rfl) | ((with_reducible apply Done.f); (intro hh hh2; exact (nomatch hh2)); (focus ((repeat' first | exact all_nil | apply all_cons | exact res_tmp rfl | exact rfl); done)); (focus ((repeat' first | exact all_nil | apply all_cons | exact retOf_s rfl | exact rfl); done)); exact rfl; (focus ((repeat' first | exact outs_nil | apply outs_d | exact rfl); done))) | ((with_reducible apply WR.un); exact rfl; exact rfl)
      all_goals rfl
    · rw [if_neg hn, decide_eq_false hn]
      repeat' first | ((with_reducible apply WR.c_s (f := 49) (fn := Code.f49)); exact rfl; exact rfl; exact rfl; (first | exact rfl); (focus ((repeat' first | exact args_nil | apply args_d | exact toD_d rfl | exact all_nil | apply all_cons | exact rfl); done)); exact h1) | ((with_reducible apply WR.mv); exact rfl; exact rfl) | ((with_reducible apply WR.nil)) | (with_reducible refine andThen_n ?_) | (with_reducible refine andThen_r ?_) | (with_reducible refine W.seq ?_) | (with_reducible refine W.region ?_) | (with_reducible refine W.skip ?_) | (with_reducible refine W.ret ?_) | ((with_reducible apply W.condT); exact rfl) | ((with_reducible apply W.condF); exact rfl) | ((with_reducible apply Done.f); (intro hh hh2; exact (nomatch hh2)); (focus ((repeat' first | exact all_nil | apply all_cons | exact res_tmp rfl | exact rfl); done)); (focus ((repeat' first | exact all_nil | apply all_cons | exact retOf_s rfl | exact rfl); done)); exact rfl; (focus ((repeat' first | exact outs_nil | apply outs_d | exact rfl); done))) | ((with_reducible apply WR.un); exact rfl; exact rfl)
      all_goals rfl
  · rw [decide_eq_false hL] at h1
    rw [if_neg hL]
    repeat' first | ((with_reducible apply WR.c_s (f := 49) (fn := Code.f49)); exact rfl; exact rfl; exact rfl; (first | exact rfl); (focus ((repeat' first | exact args_nil | apply args_d | exact toD_d rfl | exact all_nil | apply all_cons | exact rfl); done)); exact h1) | ((with_reducible apply WR.mv); exact rfl; exact rfl) | ((with_reducible apply WR.nil)) | (with_reducible refine andThen_n ?_) | (with_reducible refine andThen_r ?_) | (with_reducible refine W.seq ?_) | (with_reducible refine W.region ?_) | (with_reducible refine W.ret ?_) | ((with_reducible apply W.condT); exact rfl) | ((with_reducible apply Done.f); (intro hh hh2; exact (nomatch hh2)); (focus ((repeat' first | exact all_nil | apply all_cons | exact res_tmp rfl | exact rfl); done)); (focus ((repeat' first | exact all_nil | apply all_cons | exact retOf_s rfl | exact rfl); done)); exact rfl; (focus ((repeat' first | exact outs_nil | apply outs_d | exact rfl); done))) | ((with_reducible apply WR.un); exact rfl; exact rfl)
    all_goals rfl
theorem contains_gives (L : List Cel) (hl : L.length ≤ 1000) (x y : Int) : Gives G 83 [asl L, ac x y] (rb (decide ((x, y) ∈ L))) := by
  have h1 := index_gives L hl x y
  have hs := idxOf_nonneg (fun c => x = c.1 ∧ y = c.2) L 0 (by omega)
  have hi : (∃ c ∈ L, x = c.1 ∧ y = c.2) ↔ (x, y) ∈ L := by
    constructor
    · rintro ⟨c, hc, h1, h2⟩
      rw [show (x, y) = c from Prod.ext h1 h2]; exact hc
    · exact fun h => ⟨_, h, rfl, rfl⟩
  refine Gives.by rfl rfl (W.seq ?_)
  by_cases hm : (x, y) ∈ L
  · have h2 := hs.2 (hi.2 hm)
    rw [decide_eq_true hm]
    repeat' first | ((with_reducible apply WR.c_s (f := 27) (fn := Code.f27)); exact rfl; exact rfl; exact rfl; (first | exact rfl); (focus ((repeat' first | exact args_nil | apply args_d | exact toD_d rfl | exact all_nil | apply all_cons | exact rfl); done)); exact h1) | ((with_reducible apply WR.mv); exact rfl; exact rfl) | ((with_reducible apply WR.nil)) | (with_reducible refine andThen_n ?_) | (with_reducible refine W.seq ?_) | (with_reducible refine W.region ?_) | (with_reducible refine W.ret ?_) | ((with_reducible apply Done.f); (intro hh hh2; exact (nomatch hh2)); (focus ((repeat' first | exact all_nil | apply all_cons | exact res_tmp rfl | exact rfl); done)); (focus ((repeat' first | exact all_nil | apply all_cons | exact retOf_s rfl | exact rfl); done)); exact rfl; (focus ((repeat' first | exact outs_nil | apply outs_d | exact rfl); done))) | (intro hb; try (exfalso; omega)) | ((with_reducible apply WR.geq); exact rfl; exact rfl; exact rfl) | ((with_reducible apply WR.bx); exact rfl; exact rfl; exact (by first | exact rfl); (first | exact rfl)) | ((with_reducible apply WR.ld); exact rfl; exact rfl; exact rfl; (first | exact ld2))
    all_goals first
      | rfl
      | (exfalso; exact absurd h2 (by assumption))
  · have h2 : ¬ 0 ≤ idxOf (fun c => x = c.1 ∧ y = c.2) L 0 := fun hh => hm (hi.1 (hs.1 hh))
    rw [decide_eq_false hm]
    repeat' first | ((with_reducible apply WR.c_s (f := 27) (fn := Code.f27)); exact rfl; exact rfl; exact rfl; (first | exact rfl); (focus ((repeat' first | exact args_nil | apply args_d | exact toD_d rfl | exact all_nil | apply all_cons | exact rfl); done)); exact h1) | ((with_reducible apply WR.mv); exact rfl; exact rfl) | ((with_reducible apply WR.nil)) | (with_reducible refine andThen_n ?_) | (with_reducible refine W.seq ?_) | (with_reducible refine W.region ?_) | (with_reducible refine W.ret ?_) | ((with_reducible apply Done.f); (intro hh hh2; exact (nomatch hh2)); (focus ((repeat' first | exact all_nil | apply all_cons | exact res_tmp rfl | exact rfl); done)); (focus ((repeat' first | exact all_nil | apply all_cons | exact retOf_s rfl | exact rfl); done)); exact rfl; (focus ((repeat' first | exact outs_nil | apply outs_d | exact rfl); done))) | (intro hb; try (exfalso; omega)) | ((with_reducible apply WR.geq); exact rfl; exact rfl; exact rfl) | ((with_reducible apply WR.bx); exact rfl; exact rfl; exact (by first | exact rfl); (first | exact rfl)) | ((with_reducible apply WR.ld); exact rfl; exact rfl; exact rfl; (first | exact ld2))
    all_goals first
      | rfl
      | (exfalso; exact h2 (by assumption))
end Go.DM
