/- Ways: what is known of a way that is drawn is so. -/
import Derived.Test.YtadlffkjghjciaaGreatDoorK380MolesC
import Derived.Test.YtadlffkjghjciaaGreatDoorK380Ways4
import Derived.Handed
import Derived.SizedLaws
set_option linter.unusedSectionVars false
set_option linter.unusedSimpArgs false
set_option linter.unusedVariables false
set_option maxHeartbeats 4000000
namespace Go.DM
variable [Tok]
open Go.IntWalk
variable {w h : Int} {g : Nat → Int} {cs : List S}
def sumC (q : Nat → Int) : List Cel → Int
  | [] => 0
  | a :: r => q (ix a) + sumC q r
theorem sumC_app (q : Nat → Int) : ∀ A B : List Cel, sumC q (A ++ B) = sumC q A + sumC q B
  | [], B => by simp [sumC]
  | a :: r, B => by simp only [List.cons_append, sumC, sumC_app q r B]; omega
theorem sumC_ne {q : Nat → Int} {k : Nat} {v : Int} : ∀ {A : List Cel}, (∀ a ∈ A, ix a ≠ k) → sumC (gset q k v) A = sumC q A
  | [], _ => rfl
  | a :: r, hA => by
    have h1 := hA a (List.mem_cons_self ..)
    simp only [sumC, sumC_ne (A := r) (fun b hb => hA b (List.mem_cons_of_mem _ hb)), gset, if_neg h1]
theorem sumC_set {q : Nat → Int} {k : Nat} : ∀ {A : List Cel}, A.Pairwise (fun a b => ix a ≠ ix b) → sumC (gset q k (q k + 1)) A ≤ sumC q A + 1
  | [], _ => by simp [sumC]
  | a :: r, hA => by
    obtain ⟨h1, h2⟩ := List.pairwise_cons.1 hA
    by_cases e : ix a = k
    · have := sumC_ne (q := q) (k := k) (v := q k + 1) (A := r) (fun b hb hbk => h1 b hb (e.trans hbk.symm))
      simp only [sumC, this, gset, if_pos e]
      rw [← e]; omega
    · have := sumC_set (q := q) (k := k) h2
      simp only [sumC, gset, if_neg e] at this ⊢
      omega
theorem sumC_zero : ∀ A : List Cel, sumC (fun _ => 0) A = 0
  | [] => rfl
  | a :: r => by simp only [sumC, sumC_zero r]; omega
theorem sumC_fold {A : List Cel} (hA : A.Pairwise (fun a b => ix a ≠ ix b)) : ∀ (T : List Cel) (q : Nat → Int), sumC (T.foldl (fun q e => if g (ix e) = 0 then gset q (ix e) (q (ix e) + 1) else q) q) A ≤ sumC q A + T.length
  | [], q => by simp
  | e :: r, q => by
    rw [List.foldl_cons, List.length_cons]
    have ih := sumC_fold hA r (if g (ix e) = 0 then gset q (ix e) (q (ix e) + 1) else q)
    have h1 : sumC (if g (ix e) = 0 then gset q (ix e) (q (ix e) + 1) else q) A ≤ sumC q A + 1 := by
      split
      · exact sumC_set hA
      · omega
    omega
theorem gI_map {f : Cel → Int} {A : List Cel} {i : Nat} (hi : i < A.length) : gI (A.map f) i = f (gC A i) := by
  simp [gI, gC, List.getD_eq_getElem?_getD, hi]
theorem sums_map (q : Nat → Int) (A : List Cel) : ∀ i, i ≤ A.length → sums (A.map fun e => q (ix e)) i = sumC q (A.take i)
  | 0, _ => by simp [sums, sumC]
  | i + 1, hi => by
    rw [sums, sums_map q A i (by omega), gI_map (by omega), List.take_add_one, gC_get (by omega), sumC_app]
    simp [sumC]
theorem sumC_pos {q : Nat → Int} (hq : ∀ k, 0 ≤ q k) : ∀ A : List Cel, 0 ≤ sumC q A
  | [] => by simp [sumC]
  | a :: r => by have := sumC_pos hq r; have := hq (ix a); simp only [sumC]; omega
theorem allC_ix (hs : 0 ≤ w ∧ w ≤ 10 ∧ h ≤ 10) : (allC w h).Pairwise (fun a b => ix a ≠ ix b) :=
  List.Pairwise.imp_of_mem (fun {a b} ha hb hab e => hab (ix_inj ⟨hs.2.1, hs.2.2⟩ (allC_mem ha) (allC_mem hb) e)) (allC_nodup (h := h) hs.1)
theorem times_in {T : List Cel} (hs : w ≤ 10 ∧ h ≤ 10) (hT : ∀ e ∈ T, Has w h e.1 e.2) {e : Cel} (he : Has w h e.1 e.2) : 0 < timesF g T (ix e) ↔ g (ix e) = 0 ∧ e ∈ T := by
  unfold timesF
  have := timesF_pos (g := g) T (fun _ => 0) (fun _ => by simp) (ix e)
  constructor
  · intro hp
    rcases this.1 hp with k | ⟨a, h1, h2, h3⟩
    · exact absurd k (by simp)
    · have := ix_inj hs (hT a h1) he h3
      subst this
      exact ⟨h2, h1⟩
  · rintro ⟨h1, h2⟩
    exact this.2 (.inr ⟨e, h2, h1, rfl⟩)
theorem letN_dot {T : List Cel} {s : List UInt8} {c : Cel} (hs : ∀ j, j < s.length → s.getD j 0 ≠ 46) : ∀ n, n ≤ s.length + 1 → (letN w h g T s c n ≠ 46 ↔ Is w h g 0 c.1 c.2 ∧ ∃ i, i < n ∧ gC T i = c)
  | 0, _ => by simp [letN]
  | n + 1, hn => by
    have ih := letN_dot (T := T) (c := c) hs n (by omega)
    unfold letN
    split
    · rename_i hh
      refine ⟨fun _ => ⟨hh.2, n, by omega, hh.1⟩, fun _ => ?_⟩
      split
      · exact hs _ (by omega)
      · decide
    · rename_i hh
      rw [ih]
      refine ⟨fun ⟨h1, i, h2, h3⟩ => ⟨h1, i, by omega, h3⟩, fun ⟨h1, i, h2, h3⟩ => ⟨h1, i, ?_, h3⟩⟩
      by_cases e : i = n
      · subst e; exact absurd ⟨h3, h1⟩ hh
      · omega
theorem rows_get {L : Cel → UInt8} {W H y : Nat} (hy : y < H) : gS (rowsOf L W H) y = rowL L W y := by
  simp [gS, rowsOf, List.getD_eq_getElem?_getD, hy]
theorem row_get {L : Cel → UInt8} {W x y : Nat} (hx : x < W) : gB (rowL L W y) x = (((L ((x : Int), (y : Int))).toNat : Nat) : Int) := by
  simp [gB, rowL, List.getD_eq_getElem?_getD, hx]
theorem lets_dot {s : List UInt8} (hl : Lets s) : ∀ j, j < s.length → s.getD j 0 ≠ 46 := fun j hj e => by
  have : (0 : Int) ≤ lu (s.getD j 0) := lets_gB hl j hj
  rw [e] at this
  revert this; decide
theorem trk_congr {s s' : List UInt8} {c : Cel} : ∀ n, (∀ j, j < n → gB s j = gB s' j) → trk s c n = trk s' c n
  | 0, _ => rfl
  | n + 1, hj => by rw [trk, trk, trk_congr n (fun j h => hj j (by omega)), hj n (by omega)]
theorem trk_part (s : List UInt8) (c : Cel) (n : Nat) : ∀ m, n ≤ m → (trk s c m).take (n + 1) = trk s c n
  | 0, hm => by
    obtain rfl : n = 0 := by omega
    rfl
  | m + 1, hm => by
    by_cases e : n = m + 1
    · subst e; exact List.take_of_length_le (by rw [trk_len]; omega)
    · rw [trk, List.take_append_of_le_length (by rw [trk_len]; omega)]
      exact trk_part s c n m (by omega)
theorem trk_take (s : List UInt8) (c : Cel) {k : Nat} (hk : k ≤ s.length) : trk (s.take k) c (s.take k).length = (trk s c s.length).take (k + 1) := by
  rw [trk_part s c k s.length hk, List.length_take, Nat.min_eq_left hk]
  refine trk_congr k fun j hj => ?_
  simp only [gB, List.getD_eq_getElem?_getD]
  rw [List.getElem?_take_of_lt hj]
theorem leftN_mono (T : List Cel) (hw : 0 ≤ w) (hT : ∀ e ∈ T, Has w h e.1 e.2) : ∀ n i, i + n ≤ T.length → leftN w h g T (i + n) ≤ leftN w h g T i
  | 0, i, _ => Nat.le_refl _
  | n + 1, i, hi => by
    have h1 := leftN_mono T hw hT n i (by omega)
    have h2 := leftN_step (g := g) T hw (i := i + n) (by omega) (hT _ (gC_mem (by omega)))
    rw [show i + (n + 1) = i + n + 1 by omega]
    omega
theorem whole_part (l : IsLawn w h g cs) (hL : LawnOk w h g) {c : Cel} {s : List UInt8} (hl : Lets s) (hn : s.length ≤ 19) (hs : Safe w h g s c) {k : Nat} (hk : k ≤ s.length) (b : Bool) (hb : b = true ↔ leftN w h g (trk s c s.length) (k + 1) = 0) :
    Gives G 18 [aa cs, ac c.1 c.2, sArg (s.take k)] (boolRes b) := by
  have hw := isWhole_gives l c (s.take k)
  have hg := gone_safe hL (hl.take k) (by rw [List.length_take]; omega) (safe_take hs k)
  rw [trk_take s c hk, hg] at hw
  have e : decide ((0 : Int) = 0 ∧ (leftL w h g ((trk s c s.length).take (k + 1))).length = 0) = b := by
    rw [Bool.eq_iff_iff, decide_eq_true_iff, hb]
    exact ⟨fun k => k.2, fun k => ⟨rfl, k⟩⟩
  rw [e] at hw
  exact hw
theorem ways_tail (l : IsLawn w h g cs) (hL : LawnOk w h g) {c : Cel} (hx : InB c) {s : List UInt8} (hl : Lets s) (hn : s.length ≤ 19) (hs : Safe w h g s c) :
    TailA cs s c (leftL w h g (trk s c s.length)) ∨ ∃ k, TailB cs s c (leftL w h g (trk s c s.length)) k := by
  have hs1 := hL.1
  have hs2 := hL.2.1
  have hg := gone_safe hL hl (by omega) hs
  have hlen := trk_len s c s.length
  have hth := trk_has (gone_zero hg).2
  have hall : leftN w h g (trk s c s.length) (s.length + 1) = (leftL w h g (trk s c s.length)).length := by
    unfold leftN; rw [List.take_of_length_le (by omega)]
  have hst : s.take s.length = s := List.take_length
  by_cases h0 : (leftL w h g (trk s c s.length)).length = 0
  · have hA : ¬ ∀ j, j ≤ s.length → leftN w h g (trk s c s.length) (j + 1) ≠ 0 := fun hh => hh s.length (Nat.le_refl _) (by rw [hall, h0])
    obtain ⟨k, h1, h2, h3⟩ := first_bad _ hA
    have h2' : leftN w h g (trk s c s.length) (k + 1) = 0 := Decidable.byContradiction h2
    have f1 := firstWhole_ok l c s hg k (by omega) h3 (fun _ => h2')
    have f2 := firstWholeS_ok l c hx s hg k (by omega) h3 (fun _ => h2')
    unfold firstRes at f1 f2
    rw [if_pos (by omega)] at f1 f2
    refine .inr ⟨k, h0, ?_, f1, f2, h1, ?_, fun hk => ?_⟩
    · have := whole_part l hL hl hn hs (Nat.le_refl _) true (by rw [hall, h0]; simp)
      rw [hst] at this; exact this
    · exact whole_part l hL hl hn hs h1 true (by rw [h2']; simp)
    · have h4 := h3 (k - 1) (by omega)
      exact whole_part l hL hl hn hs (k := k - 1) (by omega) false (by simp only [Bool.false_eq_true, false_iff]; exact h4)
  · have h3 : ∀ j, j < (trk s c s.length).length → leftN w h g (trk s c s.length) (j + 1) ≠ 0 := fun j hj => by
      have := leftN_mono (g := g) (trk s c s.length) (by omega) hth (s.length - j) (j + 1) (by omega)
      rw [show j + 1 + (s.length - j) = s.length + 1 by omega, hall] at this
      omega
    have f1 := firstWhole_ok l c s hg _ (Nat.le_refl _) h3 (fun k => absurd k (Nat.lt_irrefl _))
    have f2 := firstWholeS_ok l c hx s hg _ (Nat.le_refl _) h3 (fun k => absurd k (Nat.lt_irrefl _))
    unfold firstRes at f1 f2
    rw [if_neg (Nat.lt_irrefl _)] at f1 f2
    refine .inl ⟨h0, ?_, f1, f2⟩
    have := whole_part l hL hl hn hs (Nat.le_refl _) false (by rw [hall]; simp only [Bool.false_eq_true, false_iff]; exact h0)
    rw [hst] at this; exact this
theorem filter_two {α : Type} (p : α → Bool) : ∀ L : List α, (L.filter fun e => p e == true).length + (L.filter fun e => p e == false).length = L.length
  | [] => rfl
  | a :: r => by
    have ih := filter_two p r
    cases hp : p a
    · simp only [List.filter_cons, hp, List.length_cons]; simp; simp only [beq_false] at ih; simp at ih; omega
    · simp only [List.filter_cons, hp, List.length_cons]; simp; simp only [beq_false] at ih; simp at ih; omega
theorem ways_in (l : IsLawn w h g cs) (hL : LawnOk w h g) (wb : 1 ≤ w ∧ w ≤ 4) (hb : 1 ≤ h ∧ h ≤ 3) {c : Cel} {s : List UInt8} (hl : Lets s) (hn : s.length ≤ 19) (hs : Safe w h g s c)
    (big : Gives G 381 [.d (.s (.tok 0)), .d (.s (.tok 1))] (rb false)) (sm : Gives G 382 [.d (.s (.tok 0))] ⟨[.agg cs, .agg [.int .i8 c.1, .int .i8 c.2]], []⟩) (wy : Gives G 383 [.d (.s (.tok 1)), aa cs, ac c.1 c.2] ⟨[.s (.str s)], []⟩) :
    WaysIn w h g cs s (revW s) (looseW s) (homeL w h g c (endL c s)) c (endL c s) (mownBL w h g (trk s c s.length)) (leftL w h g (trk s c s.length)) (ofKind w h g 0) (allC w h) (timesL w h (timesF g (trk s c s.length))) (rowsOf (letS w h g (trk s c s.length) s) w.toNat h.toNat) := by
  have hg := gone_safe hL hl (by omega) hs
  have hO := (gone_zero hg).2
  have hth := trk_has hO
  have hlen := trk_len s c s.length
  have hC := hs.start
  have hE := hs.stop
  have hCH := hC.1
  have hEH := hE.1
  simp only [Has] at hCH hEH
  have hx : InB c := by unfold InB; omega
  have hal := allC_len (w := w) (h := h) (by omega)
  have halw : ((allC w h).length : Int) = w * h := by
    unfold allC
    rw [cellsTo_len]
    obtain ⟨W0, rfl⟩ : ∃ W0 : Nat, w = W0 := ⟨w.toNat, by omega⟩
    obtain ⟨H0, rfl⟩ : ∃ H0 : Nat, h = H0 := ⟨h.toNat, by omega⟩
    rw [Int.toNat_natCast, Int.toNat_natCast, Int.natCast_mul]
  have hwh : 1 ≤ w * h ∧ w * h ≤ 12 := by
    obtain rfl | rfl | rfl : h = 1 ∨ h = 2 ∨ h = 3 := by omega
    all_goals omega
  obtain ⟨rS, rE⟩ := revW_safe hl hs
  obtain ⟨oS, oE⟩ := loose_safe hl hs
  obtain ⟨ol1, ol2⟩ := looseW_len s
  have hrl := revW_len s
  obtain ⟨k1, k2, k3, k4, k5, k6, k7⟩ := home_told (by omega) (looseW_lets hl) oS oE
  have gR := gone_safe hL (revW_lets hl) (by omega) rS
  have gO := gone_safe hL (looseW_lets hl) (by omega) oS
  have gH := gone_safe hL k5 (by omega) k6
  have m97 := mownBy_gives l c s
  have m96 := mownByS_gives l c hx s
  have l41 := leftBy_gives l c s
  have l95 := leftByS_gives l c hx s
  have p90 := progStrip_gives l c s
  have p89 := specStrip_gives l c hx s
  rw [if_pos hg] at m97 m96 l41 l95 p90 p89
  have tq : ∀ k, 0 ≤ timesF g (trk s c s.length) k ∧ timesF g (trk s c s.length) k ≤ 20 := fun k => by
    have := timesF_b (g := g) (trk s c s.length) (fun _ => 0) 0 (fun _ => by simp) k
    unfold timesF; omega
  have hld := lets_dot hl
  refine ⟨l, wb, hb, hn, big, sm, wy, checkWay_gives l c s hg, endOf_gives l c s hg, endOfS_gives l c hx s hg, m97, m96, l41, l95, mownTimes_ok l c s hg, mownTimesS_ok l c hx s hg, p90, p89, cellsOfS_gives l hL, a2Cells_gives l (by omega), ?_, ?_, ?_, ?_, halw, hwh, ?_, ?_, ?_, reverseWay_gives s hl (by omega), reverseWayS_gives s hl (by omega), hrl, ?_, looseWay_gives s hl (by omega), looseWayS_gives s hl (by omega), ⟨ol1, by omega⟩, ?_, ?_, homeFrom_gives l hL c (endL c s) hC hE k1, homeFromS_gives l hL c (endL c s) hC hE k1, ?_, k4, ?_⟩
  · exact Nat.le_trans (List.length_filter_le ..) hal
  · exact Nat.le_trans (List.length_filter_le ..) hal
  · rw [mown_mown ⟨by omega, by omega⟩ hth, left_mown ⟨by omega, by omega⟩ hth]
    have := filter_two (fun e => decide (timesF g (trk s c s.length) (ix e) > 0)) (ofKind w h g 0)
    unfold mownL
    omega
  · rw [timesL_len]; exact halw
  · rw [rowsOf, List.length_map, List.length_range]; omega
  · intro i hi
    have hm := gC_mem hi
    have hH := allC_mem hm
    have hHH := hH
    simp only [Has] at hHH
    have hn2 : gI (timesL w h (timesF g (trk s c s.length))) i = timesF g (trk s c s.length) (ix (gC (allC w h) i)) := gI_map hi
    have hti := times_in (g := g) (T := trk s c s.length) ⟨by omega, by omega⟩ hth hH
    rw [hn2]
    generalize hc0 : gC (allC w h) i = a at *
    have hrg : gS (rowsOf (letS w h g (trk s c s.length) s) w.toNat h.toNat) a.2.toNat = rowL (letS w h g (trk s c s.length) s) w.toNat a.2.toNat := rows_get (by omega)
    have hIs : Is w h g 0 a.1 a.2 ↔ g (ix a) = 0 := ⟨fun k => k.2, fun k => ⟨hH, k⟩⟩
    refine ⟨hH, tq _, ?_, ?_, ?_, ?_⟩
    · rw [hrg, rowL, List.length_map, List.length_range]; omega
    · rw [hti]
      show _ ↔ a ∈ mownBL w h g (trk s c s.length)
      unfold mownBL those
      rw [List.mem_filter, decide_eq_true_iff]
      exact ⟨fun k => ⟨hm, hIs.2 k.1, k.2⟩, fun k => ⟨hIs.1 k.2.1, k.2.2⟩⟩
    · show a ∈ mownBL w h g (trk s c s.length) → a ∉ leftL w h g (trk s c s.length)
      unfold mownBL leftL those
      rw [List.mem_filter, List.mem_filter, decide_eq_true_iff, decide_eq_true_iff]
      exact fun k k2 => k2.2.2 k.2.2
    · rw [hrg, row_get (by omega), hti]
      have e1 : (((a.1.toNat : Nat) : Int), ((a.2.toNat : Nat) : Int)) = a := Prod.ext (by simp only; omega) (by simp only; omega)
      rw [e1]
      have hd := letN_dot (w := w) (h := h) (g := g) (T := trk s c s.length) (c := a) hld (s.length + 1) (Nat.le_refl _)
      have hb46 : ((((letS w h g (trk s c s.length) s a).toNat : Nat) : Int) ≠ 46) ↔ letN w h g (trk s c s.length) s a (s.length + 1) ≠ 46 := by
        unfold letS
        rw [hlen]
        exact not_congr (byte_eq (b := 46))
      rw [hb46, hd, hIs]
      refine and_congr Iff.rfl ⟨fun k => ?_, fun ⟨i, k1, k2⟩ => ?_⟩
      · obtain ⟨i, hi, he⟩ := List.getElem_of_mem k
        refine ⟨i, by omega, ?_⟩
        rw [gC, List.getD_eq_getElem?_getD, List.getElem?_eq_getElem hi]; exact he
      · rw [← k2]; exact gC_mem (by omega)
  · intro i hi
    have h1 : sums (timesL w h (timesF g (trk s c s.length))) i = sumC (timesF g (trk s c s.length)) ((allC w h).take i) := sums_map _ _ i hi
    rw [h1]
    refine ⟨sumC_pos (fun k => (tq k).1) _, ?_⟩
    have hp : ((allC w h).take i).Pairwise (fun a b => ix a ≠ ix b) := (allC_ix (w := w) (h := h) (by omega)).sublist (List.take_sublist ..)
    have := sumC_fold (g := g) hp (trk s c s.length) (fun _ => 0)
    rw [sumC_zero] at this
    unfold timesF
    omega
  · have := endOf_gives l (endL c s) (revW s) gR
    rw [rE] at this; exact this
  · have := endOf_gives l c (looseW s) gO
    rw [oE] at this; exact this
  · have := looseWay_gives (looseW s) (looseW_lets hl) (by omega)
    rw [loose_twice] at this; exact this
  · have := stepsToS_gives l hL c (endL c s) hC hE (by omega)
    rw [← k3] at this; exact this
  · have := endOf_gives l c (homeL w h g c (endL c s)) gH
    rw [k7] at this; exact this
end Go.DM

/- Ways: the law. -/
set_option maxHeartbeats 4000000
namespace Go.DM
variable [Tok]
open Go.IntWalk
theorem law_Ways (u0 : (Tok.dat 0).length ≤ 9223372036854775807) (u1 : (Tok.dat 1).length ≤ 9223372036854775807) : Gives G 380 [.d (.s (.tok 0)), .d (.s (.tok 1))] (rb true) := by
  have hbig := a2Long_gives 0 1 u0 u1
  by_cases b0 : 3000 < (Tok.dat 0).length ∨ 3000 < (Tok.dat 1).length
  · rw [decide_eq_true b0] at hbig
    refine Gives.by rfl rfl (W.seq ?_)
    repeat' first | ((with_reducible apply WR.c_s (f := 381) (fn := Code.f381)); exact rfl; exact rfl; exact rfl; (exact rfl); (focus ((repeat' first | exact args_nil | apply args_d | exact toD_d rfl | exact all_nil | apply all_cons | exact rfl); done)); exact hbig) | ((with_reducible apply WR.mv); exact rfl; exact rfl) | ((with_reducible apply WR.nil)) | (with_reducible refine andThen_n ?_) | (with_reducible refine andThen_r ?_) | (with_reducible refine W.seq ?_) | (with_reducible refine W.region ?_) | (with_reducible refine W.ret ?_) | ((with_reducible apply W.condT); exact rfl) | ((with_reducible apply Done.f); (intro hh hh2; exact (nomatch hh2)); (focus ((repeat' first | exact all_nil | apply all_cons | exact res_tmp rfl | exact rfl); done)); (focus ((repeat' first | exact all_nil | apply all_cons | exact retOf_s rfl | exact rfl); done)); exact rfl; (focus ((repeat' first | exact outs_nil | apply outs_d | exact rfl); done)))
    rfl
  rw [decide_eq_false b0] at hbig
  obtain ⟨w, h, g, x, y, hw, hh, hk, hO, sm⟩ := a2small_gives 0 (by omega)
  have l : IsLawn w h g (lwn w h g) := lwn_is (by omega) (by omega) hk
  have hL : LawnOk w h g := lwn_ok (by omega) (by omega) hk
  generalize lwn w h g = cs at sm l
  obtain ⟨s, hlt, hsl, hsf, wy⟩ := a2way_gives l ⟨by omega, by omega⟩ (x, y) hO 1 (by omega)
  have hx : InB (x, y) := by
    have := hO.1
    simp only [Has] at this
    unfold InB; dsimp only; omega
  exact ways_main (ways_in l hL hw hh hlt hsl hsf hbig sm wy) (ways_tail l hL hx hlt hsl hsf)
end Go.DM

/- A card's call: the world's shape and what is laid, both kept. -/
namespace Go.DM
variable {H : Type} {enc : TypeId × Value → H}
theorem returnsInHanded_of_change_both {a : Assume} {C : Checked} {os : Os} {f : FuncId} {fn : Func} {s : ChangeSpec} {conds : List PathCond} {apart fresh handsOn again : Bool} {X : World → Array Value → Prop}
    (hX : ∀ (w w' : World) (args : Array Value), w.heap = w'.heap → X w args → X w' args)
    (own : ownKnob C.prog.godebug = none) (started : os.Started) (noInit : C.prog.inits.idxOf? f = none) (hfn : C.prog.funcs[f]? = some fn)
    (witness : ∃ (w : World) (tape : Tape) (i : Input), w.os = os ∧ (w.forCall tape i).Shaped C.prog ∧ i.vars = [] ∧ Input.okWide C.prog (w.forCall tape i) .any w.heap.size f i ∧
      ((s.pre enc C.prog fn conds apart (w.forCall tape i).memory i.args ∧ X (w.forCall tape i).memory i.args) ∧ sizedMet enc C.prog fn (OpenSpec.ofChange s) apart (w.forCall tape i).memory i.args) ∧ a.holds C.prog (lone (Frame.enter C.prog f i.args .normal) [] (w.forCall tape i)))
    (contract : ∀ (W : World) (base : Nat) (args : Array Value) (ds gs : List (DataW H)) (before : List MemPlace),
      (∀ (j : Nat) t v, fn.params[j]? = some t → args[j]? = some v → Value.okWide C.prog W .any base t v) →
      DataW.Whole enc C.prog fn.params.toList s.vars apart W args.toList ds gs before →
      conds.all (PathCond.test C.prog ⟨fn.params.toList, ds, s.plain.varTypes C.prog, gs⟩) = true →
      (DataW.weightsEach C.prog (fn.params.toList ++ s.plain.varTypes C.prog) (ds ++ gs)).all (· ≤ reachBytes) = true → X W args → W.ShapedOpen C.prog →
      a.holds C.prog (lone (Frame.enter C.prog f args .normal) [] W) →
      Go.Calls C.prog f args W fun e W' => ∃ v, e = .returned v ∧ s.post enc C.prog fn apart fresh handsOn again W args v W') :
    ReturnsInHanded a C os f .any (fun w args => (s.pre enc C.prog fn conds apart w args ∧ X w args) ∧ sizedMet enc C.prog fn (OpenSpec.ofChange s) apart w args) (s.post enc C.prog fn apart fresh handsOn again) := by
  refine returnsInHanded_of_calls own started noInit witness ?_
  intro w tape i _ hsh _ hok hpre hholds
  obtain ⟨_, _, _, fn', hfn', _, _, _, _, hval⟩ := hok
  have e : fn' = fn := Option.some.inj (hfn'.symm.trans hfn)
  subst e
  obtain ⟨⟨⟨ds, gs, before, hw, hc⟩, hx⟩, hz⟩ := hpre
  have hw' := DataW.Whole.of_heap (w' := w.forCall tape i) (by rfl) hw
  refine (contract (w.forCall tape i) w.heap.size i.args ds gs before hval hw' hc (hz.weights hw) (hX _ _ _ (by rfl) hx) hsh hholds).mono fun e W' ⟨v, he, hp⟩ => ?_
  subst he
  exact ChangeSpec.post_blind hp
end Go.DM
