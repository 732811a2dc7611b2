/- Weeds are read from their text: both sides, the statement. -/
import Derived.Test.YtppmmeciihmnjaaDoorK279Weeds
import Derived.Test.YtppmmeciihmnjaaDoorK279Laws
set_option linter.unusedSimpArgs false
set_option linter.unusedVariables false
set_option linter.unnecessarySimpa false
set_option maxHeartbeats 4000000
namespace Go.DM
open Go.IntWalk
variable {w h : Int} {g : Nat → Int} {cs : List S}
theorem bits_add (f : Nat → Bool) (x : Nat) (hf : f x = true) : ((bitsV f x : Nat) : Int) + 2 ^ x = ((bitsV f (x + 1) : Nat) : Int) := by
  simp only [bitsV]; rw [if_pos hf]; push_cast; rfl
theorem bits_same (f : Nat → Bool) (x : Nat) (hf : f x = false) : bitsV f x = bitsV f (x + 1) := by
  simp only [bitsV]; rw [if_neg (by rw [hf]; decide), Nat.add_zero]
/-- Rows of bits, behind y rows and x bits. -/
def wq (F : Nat → Nat → Bool) (W y x : Nat) (k : Nat) : Int := ((if k < y then bitsV (F k) W else if k = y then bitsV (F k) x else 0 : Nat) : Int)
theorem wq_zero (F : Nat → Nat → Bool) (W : Nat) : wq F W 0 0 = fun _ => 0 := by
  funext k; unfold wq; rw [if_neg (by omega)]
  by_cases e : k = 0
  · rw [if_pos e]; rfl
  · rw [if_neg e]; rfl
theorem wq_at (F : Nat → Nat → Bool) (W y x : Nat) : wq F W y x y = ((bitsV (F y) x : Nat) : Int) := by
  unfold wq; rw [if_neg (by omega), if_pos rfl]
theorem wq_set {F : Nat → Nat → Bool} {W y x : Nat} (hf : F y x = true) : gset (wq F W y x) y (wq F W y x y + 2 ^ x) = wq F W y (x + 1) := by
  funext k
  unfold gset
  by_cases e : k = y
  · subst e; rw [if_pos rfl, wq_at, wq_at, bits_add _ _ hf]
  · rw [if_neg e]; unfold wq; rw [if_neg e, if_neg e]
theorem wq_same {F : Nat → Nat → Bool} {W y x : Nat} (hf : F y x = false) : wq F W y x = wq F W y (x + 1) := by
  funext k
  by_cases e : k = y
  · subst e; rw [wq_at, wq_at, bits_same _ _ hf]
  · unfold wq; rw [if_neg e, if_neg e]
theorem wq_row (F : Nat → Nat → Bool) (W y : Nat) : wq F W y W = wq F W (y + 1) 0 := by
  funext k
  unfold wq
  by_cases e : k = y
  · subst e; rw [if_neg (by omega), if_pos rfl, if_pos (by omega)]
  · rw [if_neg e]
    by_cases hk : k < y
    · rw [if_pos hk, if_pos (by omega)]
    · rw [if_neg hk, if_neg (by omega)]
      by_cases e2 : k = y + 1
      · rw [if_pos e2]; rfl
      · rw [if_neg e2]
theorem wq_lt (F : Nat → Nat → Bool) (W y x : Nat) : 0 ≤ wq F W y x y ∧ wq F W y x y < 2 ^ x := by
  rw [wq_at]
  have hp : ((2 : Int) ^ x) = ((2 ^ x : Nat) : Int) := by push_cast; rfl
  rw [hp]
  exact ⟨Int.natCast_nonneg _, Int.ofNat_lt.2 (bitsV_lt _ _)⟩
theorem wq_b (F : Nat → Nat → Bool) (W y x : Nat) (hW : W ≤ 10) (hx : x ≤ 10) : WB (wq F W y x) := fun k _ => by
  have h1 := bitsV_lt (F k) W
  have h2 := bitsV_lt (F k) x
  have h3 : (2 : Nat) ^ W ≤ 2 ^ 10 := Nat.pow_le_pow_right (by decide) hW
  have h4 : (2 : Nat) ^ x ≤ 2 ^ 10 := Nat.pow_le_pow_right (by decide) hx
  unfold wq
  refine ⟨Int.natCast_nonneg _, (Int.ofNat_lt.2 ?_ : _ < ((65536 : Nat) : Int))⟩
  repeat' split
  all_goals omega
/-- What is read of a bit. -/
theorem wq_bit (F : Nat → Nat → Bool) {W H y x : Nat} : bitQ (wq F W H 0) y x ↔ y < H ∧ x < W ∧ F y x = true := by
  have hp : ((2 : Int) ^ x) = ((2 ^ x : Nat) : Int) := by push_cast; rfl
  unfold bitQ wq
  by_cases hy : y < H
  · rw [if_pos hy, hp]
    have e : ((bitsV (F y) W : Nat) : Int) / ((2 ^ x : Nat) : Int) % 2 = ((bitsV (F y) W / 2 ^ x % 2 : Nat) : Int) := by push_cast; rfl
    rw [e]
    by_cases hx : x < W
    · rw [bitsV_bit _ _ _ hx]
      by_cases hf : F y x = true
      · simp [hf, hy, hx]
      · simp [hf]
    · rw [bitsV_over _ _ _ (by omega)]
      simp [hx]
  · rw [if_neg hy]
    have : (if y = H then bitsV (F y) 0 else 0) = 0 := by split <;> rfl
    rw [this]
    simp [hy]
theorem wq_congr {F F' : Nat → Nat → Bool} {W H : Nat} (hf : ∀ y, y < H → ∀ x, x < W → F y x = F' y x) : wq F W H 0 = wq F' W H 0 := by
  funext k
  unfold wq
  by_cases hk : k < H
  · rw [if_pos hk, if_pos hk, bitsV_congr fun x hx => hf k hk x hx]
  · rw [if_neg hk, if_neg hk]; rfl
theorem wq_next (F : Nat → Nat → Bool) {W i : Nat} (hW : 0 < W) : wq F W (i / W) (i % W + 1) = wq F W ((i + 1) / W) ((i + 1) % W) := by
  have hlt := Nat.mod_lt i hW
  have hdm := Nat.div_add_mod i W
  by_cases e : i % W + 1 = W
  · have e2 : i + 1 = W * (i / W + 1) := by rw [Nat.mul_succ]; omega
    rw [e, e2, Nat.mul_div_cancel_left _ hW, Nat.mul_mod_right, wq_row]
  · have e2 : i + 1 = (i % W + 1) + W * (i / W) := by omega
    have hl : i % W + 1 < W := by omega
    have e3 : (i + 1) / W = i / W := by
      rw [e2, Nat.add_mul_div_left _ _ hW, Nat.div_eq_of_lt hl, Nat.zero_add]
    have e4 : (i + 1) % W = i % W + 1 := by
      rw [e2, Nat.add_mul_mod_self_left, Nat.mod_eq_of_lt hl]
    rw [e3, e4]
theorem fm_get {R : Nat → List UInt8} {W : Nat} : ∀ H, (∀ y, y < H → (R y).length = W) → ((List.range H).flatMap R).length = H * W ∧ ∀ y x, y < H → x < W → ((List.range H).flatMap R).getD (y * W + x) 0 = (R y).getD x 0
  | 0, _ => ⟨by simp, fun y x hy => by omega⟩
  | H + 1, h => by
    obtain ⟨h1, h2⟩ := fm_get H fun y hy => h y (by omega)
    have e : (List.range (H + 1)).flatMap R = (List.range H).flatMap R ++ R H := by rw [List.range_succ, List.flatMap_append]; simp
    rw [e]
    refine ⟨by rw [List.length_append, h1, h H (by omega), Nat.succ_mul], fun y x hy hx => ?_⟩
    by_cases hyH : y < H
    · have hlt : y * W + x < H * W := by
        have : (y + 1) * W ≤ H * W := Nat.mul_le_mul_right _ hyH
        rw [Nat.succ_mul] at this; omega
      rw [← h2 y x hyH hx, List.getD_eq_getElem?_getD, List.getD_eq_getElem?_getD, List.getElem?_append_left (by omega)]
    · obtain rfl : y = H := by omega
      rw [List.getD_eq_getElem?_getD, List.getD_eq_getElem?_getD, List.getElem?_append_right (by omega), h1, show y * W + x - y * W = x by omega]
theorem ls_rows' {ls : List (List UInt8)} (hl : 1 ≤ ls.length) (h : gS ls (ls.length - 1) = []) : ls = (List.range (ls.length - 1)).map (gS ls) ++ [[]] := by
  apply List.ext_getElem?
  intro i
  by_cases hi : i < ls.length - 1
  · rw [List.getElem?_append_left (by simpa using hi), gS_get (by omega)]
    simp [hi]
  · by_cases e : i = ls.length - 1
    · rw [List.getElem?_append_right (by simp; omega), gS_get (by omega), e, h]
      simp
    · rw [List.getElem?_eq_none (by omega), List.getElem?_eq_none (by simp; omega)]
open Go.Lib in
theorem replace_one (c : UInt8) : ∀ s : List UInt8, replaceK [c] [] (count s [c]) s = s.filter (fun b => b != c)
  | [] => by rw [count_miss (by simp [index])]; rfl
  | b :: l => by
    by_cases h : b = c
    · subst h
      rw [count_cons_eq, Nat.add_comm 1]
      have hix : index (b :: l) [b] = 0 := by rw [index]; simp [List.isPrefixOf]
      rw [replaceK, hix, if_neg (by decide)]
      have := replace_one b l
      simp [this]
    · rw [count_cons_ne b c l h]
      have hp : ([c] : List UInt8).isPrefixOf (b :: l) = false := by simp [List.isPrefixOf, Ne.symm h]
      have hix : index (b :: l) [c] = if index l [c] == -1 then -1 else index l [c] + 1 := by rw [index, hp]; simp
      have ih := replace_one c l
      have hge := index_ge l [c]
      have hf : (b :: l).filter (fun b => b != c) = b :: l.filter (fun b => b != c) := by simp [h]
      rw [hf, ← ih]
      cases hk : count l [c] with
      | zero => rfl
      | succ k =>
        simp only [replaceK]
        by_cases hm : index l [c] = -1
        · rw [hix, hm]; rfl
        · have hne : (index l [c] == -1) = false := by simpa using hm
          obtain ⟨j, hj⟩ : ∃ j : Nat, index l [c] = j := ⟨(index l [c]).toNat, by omega⟩
          rw [hix, hne]
          rw [hj]
          have e1 : ((j : Int) + 1 == -1) = false := by simpa using (by omega : ¬ (j : Int) + 1 = -1)
          have e0 : ((j : Int) == -1) = false := by simpa using (by omega : ¬ (j : Int) = -1)
          have e2 : ((j : Int) + 1).toNat = j + 1 := by omega
          simp [e0, e1, e2]
theorem replaceAll_one (c : UInt8) (s : List UInt8) : Lib.replaceAll s [c] [] = s.filter (fun b => b != c) := by
  rw [Lib.replaceAll, Lib.replace, if_neg (by simp), Lib.replaceNum, if_pos (.inl (by decide)), replace_one]
def FW (ls : List (List UInt8)) (y x : Nat) : Bool := decide ((gS ls y).getD x 0 = 119)
def FP (L : List UInt8) (W y x : Nat) : Bool := decide (L.getD (y * W + x) 0 = 119)
def RowOk (ls : List (List UInt8)) (W y : Nat) : Prop := (gS ls y).length = W ∧ ∀ x, x < W → (gS ls y).getD x 0 = 119 ∨ (gS ls y).getD x 0 = 46
def GoodW (ls : List (List UInt8)) (W H : Nat) : Prop := ls.length - 1 = H ∧ gS ls (ls.length - 1) = [] ∧ ∀ y, y < H → RowOk ls W y
theorem goodW_text {s : List UInt8} {ls : List (List UInt8)} {W H : Nat} (hW : 0 < W) (hls : pieces 10 s = ls) (gd : GoodW ls W H) :
    (Lib.replaceAll s [10] []).length = H * W ∧ (∀ y, y < H → ∀ x, x < W → FP (Lib.replaceAll s [10] []) W y x = FW ls y x) ∧ textC (W : Int) (letW (wq (FW ls) W H 0)) (allC (W : Int) (H : Int)) = s := by
  obtain ⟨h1, h2, h3⟩ := gd
  have hne := pieces_ne 10 s
  rw [hls] at hne
  have hpos := List.length_pos_iff.2 hne
  have hr := ls_rows' hpos h2
  rw [h1] at hr
  have hs : s = (List.range H).flatMap fun y => gS ls y ++ [10] := by
    have := unp_pieces 10 s
    rw [hls, hr, unp_snoc, List.append_nil, List.flatMap_map] at this
    exact this.symm
  have hno : ∀ y, y < H → (gS ls y).filter (fun b => b != 10) = gS ls y := fun y hy => by
    rw [List.filter_eq_self]
    intro b hb
    obtain ⟨x, hx, rfl⟩ := List.mem_iff_getElem.1 hb
    have := (h3 y hy).2 x (by rw [← (h3 y hy).1]; exact hx)
    rw [List.getD_eq_getElem?_getD, List.getElem?_eq_getElem hx] at this
    simp only [Option.getD_some] at this
    rcases this with e | e <;> rw [e] <;> decide
  have hL : Lib.replaceAll s [10] [] = (List.range H).flatMap fun y => gS ls y := by
    rw [replaceAll_one, hs, List.filter_flatMap]
    refine fm_congr fun y hy => ?_
    rw [List.mem_range] at hy
    show ((gS ls y) ++ [10]).filter _ = _
    rw [List.filter_append, hno y hy]; simp
  obtain ⟨f1, f2⟩ := fm_get (R := fun y => gS ls y) (W := W) H fun y hy => (h3 y hy).1
  refine ⟨by rw [hL, f1], fun y hy x hx => by unfold FP FW; rw [hL, f2 y x hy hx], ?_⟩
  rw [textC_all _ _ _ hW]
  conv => rhs; rw [hs]
  refine fm_congr fun y hy => ?_
  rw [List.mem_range] at hy
  rw [row_ext (l := gS ls y) (h3 y hy).1 fun x hx => ?_]
  have hl := (h3 y hy).2 x hx
  have hb : bitQ (wq (FW ls) W H 0) ((y : Int)).toNat ((x : Int)).toNat ↔ (gS ls y).getD x 0 = 119 := by
    rw [Int.toNat_natCast, Int.toNat_natCast, wq_bit]
    simp [FW, hy, hx]
  unfold letW
  rcases hl with e | e
  · rw [if_pos (hb.2 e), e]
  · rw [if_neg (fun hh => by rw [hb.1 hh] at e; revert e; decide), e]
theorem text_goodW {s : List UInt8} {ls : List (List UInt8)} {W H : Nat} {q : Nat → Int} (hW : 0 < W) (hls : pieces 10 s = ls) (ht : textC (W : Int) (letW q) (allC (W : Int) (H : Int)) = s) :
    GoodW ls W H ∧ ∀ y, y < H → ∀ x, x < W → (FW ls y x = true ↔ bitQ q y x) := by
  have h10 : ∀ l ∈ (List.range H).map (rowL (letW q) W), (10 : UInt8) ∉ l := by
    intro l hl
    obtain ⟨y, _, rfl⟩ := List.mem_map.1 hl
    intro hh
    obtain ⟨x, _, hx⟩ := List.mem_map.1 hh
    unfold letW at hx
    split at hx <;> (revert hx; decide)
  rw [textC_all _ _ _ hW] at ht
  have hp := pieces_lines (c := 10) ((List.range H).map (rowL (letW q) W)) [] h10
  rw [List.append_nil, List.flatMap_map] at hp
  rw [← ht] at hls
  have e : ls = (List.range H).map (rowL (letW q) W) ++ [[]] := by rw [← hls]; exact hp
  have hlen : ls.length = H + 1 := by rw [e]; simp
  have hrow : ∀ y, y < H → gS ls y = rowL (letW q) W y := fun y hy => by
    rw [e]; simp [gS, List.getD_eq_getElem?_getD, List.getElem?_append_left, hy]
  have hlast : gS ls H = [] := by
    rw [e]; simp [gS, List.getD_eq_getElem?_getD, List.getElem?_append_right]
  have hat : ∀ y, y < H → ∀ x, x < W → (gS ls y).getD x 0 = if bitQ q y x then 119 else 46 := fun y hy x hx => by
    rw [hrow y hy, rowL_at hx, letW, Int.toNat_natCast, Int.toNat_natCast]
  refine ⟨⟨by omega, by rw [show ls.length - 1 = H by omega]; exact hlast, fun y hy => ⟨by rw [hrow y hy, rowL_len], fun x hx => ?_⟩⟩, fun y hy x hx => ?_⟩
  · rw [hat y hy x hx]; split
    · exact .inl rfl
    · exact .inr rfl
  · unfold FW
    rw [decide_eq_true_iff, hat y hy x hx]
    by_cases hb : bitQ q y x
    · simp [hb]
    · simp [hb]
end Go.DM
