/- Ways as lists of letters: ways back, loosened ways, ways home. Plain facts. -/
import Derived.Test.YtadlffkjghjciaaGreatDoorK380Stripes
import Derived.Test.YtadlffkjghjciaaGreatDoorK380First
import Derived.Test.YtadlffkjghjciaaGreatDoorK380LeftBy
import Derived.Test.YtadlffkjghjciaaGreatDoorK380Dist
import Derived.Test.YtadlffkjghjciaaGreatDoorK380All
import Derived.Test.YtadlffkjghjciaaGreatDoorK380More
set_option linter.unusedSectionVars false
set_option linter.unusedSimpArgs false
set_option linter.unusedVariables false
set_option maxHeartbeats 4000000
namespace Go.DM
variable [Tok]
open Go.IntWalk
variable {w h : Int} {g : Nat → Int} {cs : List S}
def lu (b : UInt8) : Int := lt ((b.toNat : Nat) : Int)
theorem lu_cases {b : UInt8} (h : 0 ≤ lu b) : b = 78 ∨ b = 87 ∨ b = 69 ∨ b = 83 := by
  have key : ∀ k : UInt8, ((k.toNat : Nat) : Int) = ((b.toNat : Nat) : Int) → b = k := fun k e => by
    have : k.toNat = b.toNat := by omega
    exact (UInt8.toNat_inj.1 this).symm
  unfold lu lt at h
  split at h
  · rename_i e; exact .inl (key 78 e)
  · split at h
    · rename_i e; exact .inr (.inl (key 87 e))
    · split at h
      · rename_i e; exact .inr (.inr (.inl (key 69 e)))
      · split at h
        · rename_i e; exact .inr (.inr (.inr (key 83 e)))
        · omega
def opp (b : UInt8) : UInt8 := if b = 78 then 83 else if b = 83 then 78 else if b = 87 then 69 else if b = 69 then 87 else b
theorem opp_opp (b : UInt8) : opp (opp b) = b := by
  by_cases h1 : b = 78
  · subst h1; rfl
  by_cases h2 : b = 83
  · subst h2; rfl
  by_cases h3 : b = 87
  · subst h3; rfl
  by_cases h4 : b = 69
  · subst h4; rfl
  have e : opp b = b := by unfold opp; rw [if_neg h1, if_neg h2, if_neg h3, if_neg h4]
  rw [e, e]
theorem opp_ok {b : UInt8} (h : 0 ≤ lu b) : 0 ≤ lu (opp b) := by
  rcases lu_cases h with rfl | rfl | rfl | rfl <;> decide
theorem undo_iff {a b : UInt8} (ha : 0 ≤ lu a) (hb : 0 ≤ lu b) : lu a + lu b = 3 ↔ a = opp b := by
  rcases lu_cases ha with rfl | rfl | rfl | rfl <;> rcases lu_cases hb with rfl | rfl | rfl | rfl <;> decide
theorem nx_opp (c : Cel) {b : UInt8} (h : 0 ≤ lu b) : nx (nx c (lu b)) (lu (opp b)) = c := by
  have e1 : lu 78 = 0 := by decide
  have e2 : lu 87 = 1 := by decide
  have e3 : lu 69 = 2 := by decide
  have e4 : lu 83 = 3 := by decide
  have o1 : opp 78 = 83 := by decide
  have o2 : opp 87 = 69 := by decide
  have o3 : opp 69 = 87 := by decide
  have o4 : opp 83 = 78 := by decide
  obtain ⟨x, y⟩ := c
  rcases lu_cases h with rfl | rfl | rfl | rfl
  · rw [o1, e1, e4]; simp [nx, Near, gC]
  · rw [o2, e2, e3]; simp [nx, Near, gC]
  · rw [o3, e3, e2]; simp [nx, Near, gC]
  · rw [o4, e4, e1]; simp [nx, Near, gC]
def endL (c : Cel) (s : List UInt8) : Cel := s.foldl (fun c b => nx c (lu b)) c
theorem endL_app (c : Cel) (s t : List UInt8) : endL c (s ++ t) = endL (endL c s) t := List.foldl_append ..
def Safe (w h : Int) (g : Nat → Int) : List UInt8 → Cel → Prop
  | [], c => Opn w h g c.1 c.2
  | b :: s, c => Opn w h g c.1 c.2 ∧ Safe w h g s (nx c (lu b))
theorem Safe.start {s : List UInt8} {c : Cel} (hs : Safe w h g s c) : Opn w h g c.1 c.2 := by
  cases s with
  | nil => exact hs
  | cons b s => exact hs.1
theorem safe_app : ∀ {s t : List UInt8} {c : Cel}, Safe w h g (s ++ t) c ↔ Safe w h g s c ∧ Safe w h g t (endL c s)
  | [], t, c => ⟨fun k => ⟨Safe.start k, k⟩, fun k => k.2⟩
  | b :: s, t, c => by
    show (_ ∧ Safe w h g (s ++ t) (nx c (lu b))) ↔ (_ ∧ Safe w h g s (nx c (lu b))) ∧ Safe w h g t (endL (nx c (lu b)) s)
    rw [safe_app (s := s), and_assoc]
theorem Safe.stop {s : List UInt8} {c : Cel} (hs : Safe w h g s c) : Opn w h g (endL c s).1 (endL c s).2 := by
  have : Safe w h g (s ++ []) c := by rw [List.append_nil]; exact hs
  exact (safe_app.1 this).2
theorem at_endL (s : List UInt8) (c : Cel) : ∀ i, i ≤ s.length → at_ s c i = endL c (s.take i)
  | 0, _ => rfl
  | i + 1, hi => by
    have e : s.take (i + 1) = s.take i ++ [s.getD i 0] := by
      rw [List.take_add_one, List.getD_eq_getElem?_getD, List.getElem?_eq_getElem (by omega)]; rfl
    rw [at_succ, at_endL s c i (by omega), e, endL_app]; rfl
theorem at_end (s : List UInt8) (c : Cel) : at_ s c s.length = endL c s := by
  rw [at_endL s c _ (Nat.le_refl _), List.take_length]
theorem safe_take {s : List UInt8} {c : Cel} (hs : Safe w h g s c) (i : Nat) : Safe w h g (s.take i) c := by
  have : Safe w h g (s.take i ++ s.drop i) c := by rw [List.take_append_drop]; exact hs
  exact (safe_app.1 this).1
theorem safe_opnW {s : List UInt8} {c : Cel} (hs : Safe w h g s c) : OpnW w h g c s := fun j hj => by
  rw [at_endL s c j (by omega)]
  exact (safe_take hs j).stop
theorem safe_one {c : Cel} {b : UInt8} : Safe w h g [b] c ↔ Opn w h g c.1 c.2 ∧ Opn w h g (nx c (lu b)).1 (nx c (lu b)).2 := Iff.rfl
def Lets (s : List UInt8) : Prop := ∀ b ∈ s, 0 ≤ lu b
theorem lets_gB {s : List UInt8} (hl : Lets s) : ∀ j, j < s.length → 0 ≤ lt (gB s j) := fun j hj => by
  have : s.getD j 0 ∈ s := by
    rw [List.getD_eq_getElem?_getD, List.getElem?_eq_getElem hj]; exact List.getElem_mem hj
  exact hl _ this
theorem Lets.app {s t : List UInt8} (hs : Lets s) (ht : Lets t) : Lets (s ++ t) := fun b hb => (List.mem_append.1 hb).elim (hs b) (ht b)
theorem Lets.take {s : List UInt8} (hs : Lets s) (i : Nat) : Lets (s.take i) := fun b hb => hs b (List.mem_of_mem_take hb)
theorem gone_safe (hL : LawnOk w h g) {s : List UInt8} {c : Cel} (hl : Lets s) (hn : s.length ≤ 200) (hs : Safe w h g s c) : goneC w h g c s = 0 := by
  have h1 : firstC w h g c = 0 := belowCode_zero.2 ⟨hL, hs.start.1, trivial⟩
  have h2 : wayC s = 0 := by unfold wayC; rw [if_neg (by omega), if_pos (lets_gB hl)]
  have h3 : toldC w h g c s = 0 := by unfold toldC; rw [if_pos h1, h2]
  unfold goneC
  rw [if_pos h3, if_pos (safe_opnW hs)]
def revW (s : List UInt8) : List UInt8 := s.reverse.map opp
theorem revW_cons (b : UInt8) (s : List UInt8) : revW (b :: s) = revW s ++ [opp b] := by simp [revW]
theorem revW_len (s : List UInt8) : (revW s).length = s.length := by simp [revW]
theorem revW_lets {s : List UInt8} (hl : Lets s) : Lets (revW s) := fun b hb => by
  obtain ⟨a, ha, rfl⟩ := List.mem_map.1 hb
  exact opp_ok (hl a (List.mem_reverse.1 ha))
theorem revW_safe : ∀ {s : List UInt8} {c : Cel}, Lets s → Safe w h g s c → Safe w h g (revW s) (endL c s) ∧ endL (endL c s) (revW s) = c
  | [], c, _, hs => ⟨hs, rfl⟩
  | b :: s, c, hl, hs => by
    obtain ⟨i1, i2⟩ := revW_safe (s := s) (c := nx c (lu b)) (fun a ha => hl a (List.mem_cons_of_mem _ ha)) hs.2
    have e : endL c (b :: s) = endL (nx c (lu b)) s := rfl
    have hb := nx_opp c (hl b (List.mem_cons_self ..))
    rw [e, revW_cons, endL_app, i2]
    refine ⟨safe_app.2 ⟨i1, ?_⟩, hb⟩
    rw [i2, safe_one, hb]
    exact ⟨hs.2.start, hs.1⟩
def stk (st : List UInt8) (x : UInt8) : List UInt8 := match st with
  | [] => [x]
  | y :: r => if y = opp x then r else x :: y :: r
def looseS (s : List UInt8) : List UInt8 := s.foldl stk []
def looseW (s : List UInt8) : List UInt8 := (looseS s).reverse
def Rdc : List UInt8 → Prop
  | [] => True
  | [_] => True
  | x :: y :: r => x ≠ opp y ∧ Rdc (y :: r)
theorem opp_sym {a b : UInt8} (h : a = opp b) : b = opp a := by rw [h, opp_opp]
theorem Rdc.tail {x : UInt8} {r : List UInt8} (h : Rdc (x :: r)) : Rdc r := by
  cases r with
  | nil => trivial
  | cons y r => exact h.2
theorem stk_rdc {st : List UInt8} (h : Rdc st) (x : UInt8) : Rdc (stk st x) := by
  cases st with
  | nil => simp [stk, Rdc]
  | cons y r =>
    simp only [stk]
    split
    · exact h.tail
    · rename_i hn
      exact ⟨fun e => hn (opp_sym e), h⟩
theorem fold_rdc : ∀ (w : List UInt8) {st : List UInt8}, Rdc st → Rdc (w.foldl stk st)
  | [], _, h => h
  | x :: w, _, h => fold_rdc w (stk_rdc h x)
theorem stk_pair {st : List UInt8} (h : Rdc st) {a b : UInt8} (hab : a = opp b) : stk (stk st a) b = st := by
  cases st with
  | nil => simp [stk, hab]
  | cons y r =>
    by_cases e : y = opp a
    · have hyb : y = b := by rw [e, hab, opp_opp]
      have h1 : stk (y :: r) a = r := by simp [stk, e]
      rw [h1]
      cases r with
      | nil => simp [stk, hyb]
      | cons z r =>
        have h0 := h.1
        have h2 : ¬ z = opp b := fun k => h0 (by rw [hyb]; exact opp_sym k)
        simp [stk, h2, hyb]
    · have h1 : stk (y :: r) a = a :: y :: r := by simp [stk, e]
      rw [h1]
      simp [stk, hab]
theorem loose_pair {a b : UInt8} (hab : a = opp b) (xs ys : List UInt8) : looseS (xs ++ a :: b :: ys) = looseS (xs ++ ys) := by
  unfold looseS
  rw [List.foldl_append, List.foldl_append, List.foldl_cons, List.foldl_cons, stk_pair (fold_rdc xs (by simp [Rdc])) hab]
theorem fold_rdcs : ∀ (w : List UInt8) (st : List UInt8), Rdc w → (∀ x y, st.head? = some x → w.head? = some y → x ≠ opp y) → w.foldl stk st = w.reverse ++ st
  | [], st, _, _ => rfl
  | x :: w, st, hw, hs => by
    have h1 : stk st x = x :: st := by
      cases st with
      | nil => rfl
      | cons y r =>
        have := hs y x rfl rfl
        simp [stk, this]
    rw [List.foldl_cons, h1, fold_rdcs w (x :: st) hw.tail ?_]
    · simp
    · intro a b ha hb
      cases w with
      | nil => cases hb
      | cons y r =>
        simp only [List.head?_cons, Option.some.injEq] at ha hb
        subst ha; subst hb
        exact hw.1
theorem loose_done {w : List UInt8} (hw : Rdc w) : looseW w = w := by
  unfold looseW looseS
  rw [fold_rdcs w [] hw (fun x y hx => by cases hx)]; simp
theorem rdc_at : ∀ {s : List UInt8}, Rdc s ↔ ∀ j, j + 1 < s.length → s.getD j 0 ≠ opp (s.getD (j + 1) 0)
  | [] => ⟨fun _ j hj => by simp at hj, fun _ => trivial⟩
  | [_] => ⟨fun _ j hj => by simp at hj, fun _ => trivial⟩
  | x :: y :: r => by
    show (x ≠ opp y ∧ Rdc (y :: r)) ↔ _
    rw [rdc_at (s := y :: r)]
    constructor
    · rintro ⟨h1, h2⟩ j hj
      cases j with
      | zero => exact h1
      | succ j => exact h2 j (by simp only [List.length_cons] at hj ⊢; omega)
    · intro hh
      exact ⟨hh 0 (by simp), fun j hj => hh (j + 1) (by simp only [List.length_cons] at hj ⊢; omega)⟩
theorem rdc_reverse {s : List UInt8} (hs : Rdc s) : Rdc s.reverse := by
  rw [rdc_at] at hs ⊢
  intro j hj
  rw [List.length_reverse] at hj
  have e : ∀ k, k < s.length → s.reverse.getD k 0 = s.getD (s.length - 1 - k) 0 := fun k hk => by
    simp only [List.getD_eq_getElem?_getD]
    rw [List.getElem?_reverse hk]
  rw [e j (by omega), e (j + 1) hj]
  intro k
  have := hs (s.length - 1 - (j + 1)) (by omega)
  rw [show s.length - 1 - (j + 1) + 1 = s.length - 1 - j by omega] at this
  exact this (opp_sym k)
theorem loose_twice (s : List UInt8) : looseW (looseW s) = looseW s := loose_done (rdc_reverse (fold_rdc s (by simp [Rdc])))
theorem loose_len : ∀ (s st : List UInt8), (s.foldl stk st).length ≤ st.length + s.length ∧ (st.length + s.length - (s.foldl stk st).length) % 2 = 0
  | [], st => ⟨by simp, by simp⟩
  | x :: s, st => by
    obtain ⟨i1, i2⟩ := loose_len s (stk st x)
    rw [List.foldl_cons]
    generalize (s.foldl stk (stk st x)).length = n at i1 i2 ⊢
    cases st with
    | nil => simp only [stk, List.length_cons, List.length_nil] at i1 i2 ⊢; omega
    | cons y r =>
      by_cases e : y = opp x
      · have h1 : stk (y :: r) x = r := by simp [stk, e]
        rw [h1] at i1 i2; simp only [List.length_cons] at i1 i2 ⊢; omega
      · have h1 : stk (y :: r) x = x :: y :: r := by simp [stk, e]
        rw [h1] at i1 i2; simp only [List.length_cons] at i1 i2 ⊢; omega
theorem stk_sub (st : List UInt8) (x b : UInt8) (hb : b ∈ stk st x) : b = x ∨ b ∈ st := by
  cases st with
  | nil => simp [stk] at hb; exact .inl hb
  | cons y r =>
    simp only [stk] at hb
    split at hb
    · exact .inr (List.mem_cons_of_mem _ hb)
    · exact (List.mem_cons.1 hb).imp id id
theorem loose_lets : ∀ (s st : List UInt8), Lets s → Lets st → Lets (s.foldl stk st)
  | [], st, _, h => h
  | x :: s, st, hs, h => loose_lets s (stk st x) (fun b hb => hs b (List.mem_cons_of_mem _ hb)) fun b hb => (stk_sub st x b hb).elim (fun e => e ▸ hs x (List.mem_cons_self ..)) (h b)
theorem looseW_lets {s : List UInt8} (hs : Lets s) : Lets (looseW s) := fun b hb => loose_lets s [] hs (fun _ k => by cases k) b (List.mem_reverse.1 hb)
theorem fold_safe {c : Cel} : ∀ (s st : List UInt8), Lets s → Lets st → Safe w h g st.reverse c → Safe w h g s (endL c st.reverse) →
    Safe w h g (s.foldl stk st).reverse c ∧ endL c (s.foldl stk st).reverse = endL (endL c st.reverse) s
  | [], st, _, _, h1, _ => ⟨h1, rfl⟩
  | x :: s, st, hl, hst, h1, h2 => by
    rw [List.foldl_cons]
    have hx := hl x (List.mem_cons_self ..)
    have key : Safe w h g (stk st x).reverse c ∧ endL c (stk st x).reverse = nx (endL c st.reverse) (lu x) := by
      cases st with
      | nil => exact ⟨⟨h1, h2.2.start⟩, rfl⟩
      | cons y r =>
        by_cases e : y = opp x
        · have e1 : stk (y :: r) x = r := by simp [stk, e]
          rw [e1]
          rw [List.reverse_cons] at h1 ⊢
          refine ⟨(safe_app.1 h1).1, ?_⟩
          rw [endL_app]
          show _ = nx (nx (endL c r.reverse) (lu y)) (lu x)
          have := nx_opp (endL c r.reverse) (hst y (List.mem_cons_self ..))
          rw [e, opp_opp] at this
          rw [e, this]
        · have e1 : stk (y :: r) x = x :: y :: r := by simp [stk, e]
          rw [e1, List.reverse_cons, endL_app]
          exact ⟨safe_app.2 ⟨h1, safe_one.2 ⟨h1.stop, h2.2.start⟩⟩, rfl⟩
    have := fold_safe s (stk st x) (fun b hb => hl b (List.mem_cons_of_mem _ hb)) (fun b hb => (stk_sub st x b hb).elim (fun e => e ▸ hx) (hst b)) key.1 (by rw [key.2]; exact h2.2)
    rw [key.2] at this
    exact this
theorem loose_safe {c : Cel} {s : List UInt8} (hl : Lets s) (hs : Safe w h g s c) : Safe w h g (looseW s) c ∧ endL c (looseW s) = endL c s :=
  fold_safe s [] hl (fun _ k => by cases k) hs.start hs
theorem looseW_len (s : List UInt8) : (looseW s).length ≤ s.length ∧ (s.length - (looseW s).length) % 2 = 0 := by
  have := loose_len s []
  simp only [looseW, looseS, List.length_reverse]
  simpa using this
def letB (k : Int) : UInt8 := if k = 0 then 78 else if k = 1 then 87 else if k = 2 then 69 else 83
theorem letB_lu {k : Int} (hk : 0 ≤ k ∧ k ≤ 3) : lu (letB k) = k := by
  obtain rfl | rfl | rfl | rfl : k = 0 ∨ k = 1 ∨ k = 2 ∨ k = 3 := by omega
  all_goals decide
def sideK (c e : Cel) : Int := if e = (c.1, c.2 - 1) then 0 else if e = (c.1 - 1, c.2) then 1 else if e = (c.1 + 1, c.2) then 2 else 3
theorem sideK_b (c e : Cel) : 0 ≤ sideK c e ∧ sideK c e ≤ 3 := by unfold sideK; repeat' split <;> omega
theorem sideK_nx {c e : Cel} (he : e ∈ Near c.1 c.2) : nx c (sideK c e) = e := by
  obtain ⟨x, y⟩ := c
  simp only [Near, List.mem_cons, List.not_mem_nil, or_false] at he
  rcases he with rfl | rfl | rfl | rfl
  · simp [sideK, nx, Near, gC]
  · have : ¬ (((x - 1, y) : Cel) = (x, y - 1)) := fun k => by have := congrArg Prod.fst k; simp only at this; omega
    simp only [sideK, this, if_false, if_true]; simp [nx, Near, gC]
  · have : ¬ (((x + 1, y) : Cel) = (x, y - 1)) := fun k => by have := congrArg Prod.fst k; simp only at this; omega
    have k2 : ¬ (((x + 1, y) : Cel) = (x - 1, y)) := fun k => by have := congrArg Prod.fst k; simp only at this; omega
    simp only [sideK, this, k2, if_false, if_true]; simp [nx, Near, gC]
  · have : ¬ (((x, y + 1) : Cel) = (x, y - 1)) := fun k => by have := congrArg Prod.snd k; simp only at this; omega
    have k2 : ¬ (((x, y + 1) : Cel) = (x - 1, y)) := fun k => by have := congrArg Prod.fst k; simp only at this; omega
    have k3 : ¬ (((x, y + 1) : Cel) = (x + 1, y)) := fun k => by have := congrArg Prod.fst k; simp only at this; omega
    simp only [sideK, this, k2, k3, if_false]; simp [nx, Near, gC]
theorem sideK_of {c : Cel} {k : Int} (hk : 0 ≤ k ∧ k ≤ 3) : sideK c (nx c k) = k := by
  obtain ⟨x, y⟩ := c
  obtain rfl | rfl | rfl | rfl : k = 0 ∨ k = 1 ∨ k = 2 ∨ k = 3 := by omega
  · simp [sideK, nx, Near, gC]
  · have e : nx (x, y) 1 = (x - 1, y) := rfl
    have k1 : ¬ (((x - 1, y) : Cel) = (x, y - 1)) := fun k => by have := congrArg Prod.fst k; simp only at this; omega
    rw [e]; simp only [sideK, k1, if_false, if_true]
  · have e : nx (x, y) 2 = (x + 1, y) := rfl
    have k1 : ¬ (((x + 1, y) : Cel) = (x, y - 1)) := fun k => by have := congrArg Prod.fst k; simp only at this; omega
    have k2 : ¬ (((x + 1, y) : Cel) = (x - 1, y)) := fun k => by have := congrArg Prod.fst k; simp only at this; omega
    rw [e]; simp only [sideK, k1, k2, if_false, if_true]
  · have e : nx (x, y) 3 = (x, y + 1) := rfl
    have k1 : ¬ (((x, y + 1) : Cel) = (x, y - 1)) := fun k => by have := congrArg Prod.snd k; simp only at this; omega
    have k2 : ¬ (((x, y + 1) : Cel) = (x - 1, y)) := fun k => by have := congrArg Prod.fst k; simp only at this; omega
    have k3 : ¬ (((x, y + 1) : Cel) = (x + 1, y)) := fun k => by have := congrArg Prod.fst k; simp only at this; omega
    rw [e]; simp only [sideK, k1, k2, k3, if_false]
def dirs : Cel → List Cel → List UInt8
  | _, [] => []
  | c, e :: r => letB (sideK c e) :: dirs e r
theorem dirs_len : ∀ (c : Cel) (L : List Cel), (dirs c L).length = L.length
  | _, [] => rfl
  | c, e :: r => by simp [dirs, dirs_len e r]
theorem dirs_lets : ∀ (c : Cel) (L : List Cel), Lets (dirs c L)
  | _, [] => fun _ k => by cases k
  | c, e :: r => fun b hb => by
    rcases List.mem_cons.1 hb with rfl | hb
    · rw [letB_lu (sideK_b c e)]; exact (sideK_b c e).1
    · exact dirs_lets e r b hb
def homeL (w h : Int) (g : Nat → Int) (a home : Cel) : List UInt8 := dirs a (homeP w h (steps w h g home) (steps w h g home (ix a)).toNat a)
theorem homeP_safe {c0 : Cel} {d : Nat → Int} (H : Homes w h g c0 d) : ∀ (n : Nat) (c : Cel), Has w h c.1 c.2 → d (ix c) = n →
    (dirs c (homeP w h d n c)).length = n ∧ Safe w h g (dirs c (homeP w h d n c)) c ∧ endL c (dirs c (homeP w h d n c)) = c0
  | 0, c, hc, hd => by
    refine ⟨rfl, H.op c hc (by omega), ?_⟩
    show c = c0
    rcases H.pred c hc (by omega) with e | ⟨p, _, _, h2, h3⟩
    · exact e
    · omega
  | n + 1, c, hc, hd => by
    have hne : c ≠ c0 := fun e => by
      have := H.home
      rw [← e] at this; omega
    obtain ⟨_, p, hp, hpn⟩ := H.next hc (by omega) hne
    have hex : ∃ e, nextH w h d c = some e := by
      unfold nextH
      cases hf : (Near c.1 c.2).find? (fun e => decide (nextP w h d c e)) with
      | some e => exact ⟨e, rfl⟩
      | none =>
        have := List.find?_eq_none.1 hf p hp
        simp [hpn] at this
    obtain ⟨e, he⟩ := hex
    have hm : e ∈ Near c.1 c.2 := List.mem_of_find?_eq_some he
    have hq : nextP w h d c e := by simpa using List.find?_some he
    have hde : d (ix e) = n := by have := hq.2; omega
    have eL : homeP w h d (n + 1) c = e :: homeP w h d n e := by rw [homeP, he]
    obtain ⟨i1, i2, i3⟩ := homeP_safe H n e hq.1 hde
    have hnx : nx c (lu (letB (sideK c e))) = e := by rw [letB_lu (sideK_b c e), sideK_nx hm]
    rw [eL]
    refine ⟨by simp [dirs, i1], ⟨H.op c hc (by omega), ?_⟩, ?_⟩
    · show Safe w h g (dirs e (homeP w h d n e)) (nx c (lu (letB (sideK c e))))
      rw [hnx]; exact i2
    · show endL (nx c (lu (letB (sideK c e)))) (dirs e (homeP w h d n e)) = c0
      rw [hnx]; exact i3
theorem safe_rch {x : Cel} : ∀ {s : List UInt8} {c : Cel} {m : Nat}, Lets s → Rch w h g x m c → Safe w h g s c → Rch w h g x (m + s.length) (endL c s)
  | [], c, m, _, r, _ => r
  | b :: s, c, m, hl, r, hs => by
    have hb := hl b (List.mem_cons_self ..)
    have hn : nx c (lu b) ∈ Near c.1 c.2 := by
      have e1 : lu 78 = 0 := by decide
      have e2 : lu 87 = 1 := by decide
      have e3 : lu 69 = 2 := by decide
      have e4 : lu 83 = 3 := by decide
      rcases lu_cases hb with rfl | rfl | rfl | rfl
      · rw [e1]; simp [nx, Near, gC]
      · rw [e2]; simp [nx, Near, gC]
      · rw [e3]; simp [nx, Near, gC]
      · rw [e4]; simp [nx, Near, gC]
    have := safe_rch (s := s) (fun a ha => hl a (List.mem_cons_of_mem _ ha)) (.step r hn hs.2.start) hs.2
    rw [List.length_cons, show m + (s.length + 1) = m + 1 + s.length by omega]
    exact this
theorem home_told (hs : w ≤ 10 ∧ h ≤ 10) {a b : Cel} {s : List UInt8} (hl : Lets s) (hsafe : Safe w h g s a) (hb : endL a s = b) :
    0 ≤ steps w h g b (ix a) ∧ steps w h g a (ix b) = steps w h g b (ix a) ∧ ((homeL w h g a b).length : Int) = steps w h g a (ix b) ∧ (homeL w h g a b).length ≤ s.length ∧
      Lets (homeL w h g a b) ∧ Safe w h g (homeL w h g a b) a ∧ endL a (homeL w h g a b) = b := by
  have ha := hsafe.start
  have hB : Opn w h g b.1 b.2 := hb ▸ hsafe.stop
  have r : Rch w h g a s.length b := by
    have := safe_rch (x := a) hl .zero hsafe
    rw [hb, Nat.zero_add] at this; exact this
  have l1 := r.le hs ha
  have l2 := (r.rev ha).le hs hB
  obtain ⟨n, hn⟩ := steps_nat l1.1
  obtain ⟨m, hm⟩ := steps_nat l2.1
  have r1 := ((rch_steps hs ha n hB.1 hn).rev ha).le hs hB
  have r2 := ((rch_steps hs hB m ha.1 hm).rev hB).le hs ha
  obtain ⟨k1, k2, k3⟩ := homeP_safe (steps_homes hs hB) m a ha.1 hm
  have e : homeL w h g a b = dirs a (homeP w h (steps w h g b) m a) := by
    unfold homeL; rw [hm, Int.toNat_natCast]
  rw [e]
  exact ⟨l2.1, by omega, by omega, by omega, dirs_lets _ _, k2, k3⟩
end Go.DM

/- Numbers drawn from bytes: next, pick, one; a lawn that is drawn. -/
set_option maxHeartbeats 4000000
namespace Go.DM
variable [Tok]
open Go.IntWalk
section
variable {Γ : Nat → Option Fn} {dsts : Nat → Option Nat} {ops : List Oper} {Q : St → Prop} {σ : St} {d : Option Nat} {g : Option (Nat × Bool)} {l1 l2 l3 l4 : List Nat}
theorem WH.c_ws {f e : Nat} {xs : List Opd} {fn : Fn} {as : List Arg} {b : S} {outs : List (List S)} {ps : List (Nat × Ob)} (hw : wanted dsts (kill l1 (only l3 σ)).env g = some true) (hΓ : Γ f = some fn)
    (hn : nodup (mutIds fn.muts (xs.map (ev (kill l1 (only l3 σ)).env))) = true) (ha : args (kill l1 (only l3 σ)) (mutIds fn.muts (xs.map (ev (kill l1 (only l3 σ)).env))) fn.muts (xs.map (ev (kill l1 (only l3 σ)).env)) = some as) (hg : Gives Γ f as ⟨[.s b], outs⟩) (hb : backs (kill l1 (only l3 σ)) fn.muts (xs.map (ev (kill l1 (only l3 σ)).env)) outs = some ps)
    (hi : ps.all (fun p => l2.contains p.1) = true) (ho : ps.map (fun p => (p.1, killO l1 p.2)) = ps)
    (k : WH Γ dsts ops Q (set (some e) (.a (.d (.s b))) (insertAll ps σ))) : WH Γ dsts (⟨some e, .call f xs, g, l1, l2, l3, l4⟩ :: ops) Q σ := by
  refine WH.call (d := e) (v := .a (.d (.s b))) (ps := ps) (ns := []) (vs := xs.map (ev (kill l1 (only l3 σ)).env)) hw rfl rfl hΓ hn ha hg hb rfl rfl rfl (by simpa using hi) rfl rfl (by simpa using ho) ?_
  simp only [List.append_nil, List.map_nil, kill_nil]
  exact k
def gT (s : List UInt8) (n : Nat) : Int := ((s.getD n 0).toNat : Nat)
theorem gT_bound (s : List UInt8) (n : Nat) : 0 ≤ gT s n ∧ gT s n ≤ 255 := by
  have := (s.getD n 0).toNat_lt
  unfold gT
  omega
theorem ldT {s : List UInt8} {n : Nat} (h : n < s.length) : loadC 1 false (u8s s) n = some (.a (.d (.s (.int .u8 (gT s n))))) := by
  have hl : (u8s s).length = s.length := by simp [u8s]
  unfold loadC
  rw [if_pos (by omega), List.drop_eq_getElem_cons (by omega)]
  simp [u8s, ofCells, sv, gT, List.getD_eq_getElem?_getD, h]
theorem WH.it {i : Nat} {a j : Opd} {k : IntKind} {n : Nat} (hw : wanted dsts (kill l1 (only l3 σ)).env g = some true) (ha : ev (kill l1 (only l3 σ)).env a = .a (.d (.s (.tok i)))) (hi : ev (kill l1 (only l3 σ)).env j = .a (.d (.s (.int k (n : Nat))))) (hb : n < (Tok.dat i).length)
    (K : WH Γ dsts ops Q (set d (.a (.dptr (u8s (Tok.dat i)) n)) σ)) : WH Γ dsts (⟨d, .idxs 1 a j, g, l1, l2, l3, l4⟩ :: ops) Q σ :=
  WH.q hw (by simp only [veil, quiet, ha, hi, idxs, asI, Option.bind_some]; rw [if_neg (by omega), if_pos ⟨by omega, trivial⟩]; rfl) rfl K
theorem WR.mlu {a b : Opd} {x y : Int} (hw : wanted dsts σ.env g = some true) (ha : ev σ.env a = .a (.d (.s (.int .u64 x)))) (hb : ev σ.env b = .a (.d (.s (.int .u64 y))))
    (K : WR Γ dsts ops Q (set d (.a (.d (.s (.int .u64 (IntKind.u64.wrap (x * y)))))) σ)) : WR Γ dsts (⟨d, .bin .mul a b, g, l1, l2, l3, l4⟩ :: ops) Q σ :=
  WR.q hw (by simp only [quiet, ha, hb, bin, isShift, intBin, sv]; rfl) K
theorem WR.adu {a b : Opd} {x y : Int} (hw : wanted dsts σ.env g = some true) (ha : ev σ.env a = .a (.d (.s (.int .u64 x)))) (hb : ev σ.env b = .a (.d (.s (.int .u64 y))))
    (K : WR Γ dsts ops Q (set d (.a (.d (.s (.int .u64 (IntKind.u64.wrap (x + y)))))) σ)) : WR Γ dsts (⟨d, .bin .add a b, g, l1, l2, l3, l4⟩ :: ops) Q σ :=
  WR.q hw (by simp only [quiet, ha, hb, bin, isShift, intBin, sv]; rfl) K
def sh40 (x : Int) : Int := x.fdiv (2 ^ 40)
theorem WR.shu {a b : Opd} {x : Int} (hw : wanted dsts σ.env g = some true) (ha : ev σ.env a = .a (.d (.s (.int .u64 x)))) (hb : ev σ.env b = .a (.d (.s (.int .u64 40))))
    (K : WR Γ dsts ops Q (set d (.a (.d (.s (.int .u64 (sh40 x))))) σ)) : WR Γ dsts (⟨d, .bin .shr a b, g, l1, l2, l3, l4⟩ :: ops) Q σ :=
  WR.q hw (by simp only [quiet, ha, hb, bin, isShift, shiftBin, sv]; rfl) K
def lo8 (x : Int) : Int := IntKind.u64.wrap ((BitVec.ofInt IntKind.u64.bits x &&& BitVec.ofInt IntKind.u64.bits 255).toNat : Nat)
theorem WR.anu {a b : Opd} {x : Int} (hw : wanted dsts σ.env g = some true) (ha : ev σ.env a = .a (.d (.s (.int .u64 x)))) (hb : ev σ.env b = .a (.d (.s (.int .u64 255))))
    (K : WR Γ dsts ops Q (set d (.a (.d (.s (.int .u64 (lo8 x))))) σ)) : WR Γ dsts (⟨d, .bin .and a b, g, l1, l2, l3, l4⟩ :: ops) Q σ :=
  WR.q hw (by simp only [quiet, ha, hb, bin, isShift, intBin, sv]; rfl) K
theorem WR.rmi {a b : Opd} {x y : Int} (hw : wanted dsts σ.env g = some true) (ha : ev σ.env a = .a (.d (.s (.int .i64 x)))) (hb : ev σ.env b = .a (.d (.s (.int .i64 y)))) (hy : y ≠ 0)
    (K : WR Γ dsts ops Q (set d (.a (.d (.s (.int .i64 (x.tmod y))))) σ)) : WR Γ dsts (⟨d, .bin .rem a b, g, l1, l2, l3, l4⟩ :: ops) Q σ :=
  WR.q hw (by simp only [quiet, ha, hb, bin, isShift, intBin, sv]; simp [hy, sv]) K
end
theorem lo8_bound (x : Int) : 0 ≤ lo8 x ∧ lo8 x ≤ 255 := by
  have h1 : (BitVec.ofInt IntKind.u64.bits x &&& BitVec.ofInt IntKind.u64.bits 255).toNat ≤ 255 := by
    rw [BitVec.toNat_and]
    exact Nat.le_trans Nat.and_le_right (by decide)
  have h2 : lo8 x = ((BitVec.ofInt IntKind.u64.bits x &&& BitVec.ofInt IntKind.u64.bits 255).toNat : Nat) := u64_in _ (by omega)
  omega
def srcC (i n : Nat) (seed : Int) : List S := [.tok i, .int .i64 (n : Nat), .int .u64 seed]
def nxtB (s : List UInt8) (n : Nat) : Int := if n < s.length then gT s n else 0
def nxtS (s : List UInt8) (n : Nat) (seed : Int) : Int := IntKind.u64.wrap (IntKind.u64.wrap (IntKind.u64.wrap (seed * 6364136223846793005) + nxtB s n) + 1442695040888963407)
def nxtV (s : List UInt8) (n : Nat) (seed : Int) : Int := if n + 1 ≤ s.length then nxtB s n else lo8 (sh40 (nxtS s n seed))
theorem nxtB_bound (s : List UInt8) (n : Nat) : 0 ≤ nxtB s n ∧ nxtB s n ≤ 255 := by
  have := gT_bound s n
  unfold nxtB; split <;> omega
theorem nxtV_bound (s : List UInt8) (n : Nat) (seed : Int) : 0 ≤ nxtV s n seed ∧ nxtV s n seed ≤ 255 := by
  have := nxtB_bound s n
  have := lo8_bound (sh40 (nxtS s n seed))
  unfold nxtV; split <;> omega
theorem next_gives (i n : Nat) (seed : Int) (hn : n ≤ 1000000000) (hl : (Tok.dat i).length ≤ 1000000000) : Gives G 379 [.mp (srcC i n seed)] ⟨[.s (.int .i64 (nxtV (Tok.dat i) n seed))], [srcC i (n + 1) (nxtS (Tok.dat i) n seed)]⟩ := by
  have hg := gT_bound (Tok.dat i) n
  refine Gives.by rfl rfl (W.seq ?_)
  by_cases h : n < (Tok.dat i).length
  · have eS : nxtS (Tok.dat i) n seed = IntKind.u64.wrap (IntKind.u64.wrap (IntKind.u64.wrap (seed * 6364136223846793005) + gT (Tok.dat i) n) + 1442695040888963407) := by simp only [nxtS, nxtB, if_pos h]
    have eV : nxtV (Tok.dat i) n seed = gT (Tok.dat i) n := by simp only [nxtV, nxtB, if_pos h]; rw [if_pos (by omega)]
    rw [eS, eV]
    repeat' first | ((with_reducible apply WH.it); exact rfl; exact rfl; exact rfl; exact h) | ((with_reducible apply WH.ldd); exact rfl; exact rfl; exact ldT h; exact rfl) | ((with_reducible apply WR.mlu); exact rfl; exact rfl; exact rfl) | ((with_reducible apply WR.adu); exact rfl; exact rfl; exact rfl) | ((with_reducible apply WR.mv); exact rfl; exact rfl) | ((with_reducible apply WH.mv); exact rfl; exact rfl; exact rfl) | ((with_reducible apply WH.lx); exact rfl; exact rfl; exact rfl) | ((with_reducible apply WH.fa); exact rfl; exact rfl; exact rfl) | ((with_reducible apply WH.nc); exact rfl; exact rfl; exact rfl) | ((with_reducible apply WR.fa); exact rfl; exact rfl) | ((with_reducible apply WR.nc); exact rfl; exact rfl) | ((with_reducible apply WR.ad); exact rfl; exact rfl; exact rfl; (first | exact i64_in _ (by omega) | exact u64_in _ (by omega))) | ((with_reducible apply WR.lx); exact rfl; exact rfl) | ((with_reducible apply WR.nil)) | (with_reducible refine andThen_n ?_) | (with_reducible refine andThen_r ?_) | (with_reducible refine W.seq ?_) | (with_reducible refine W.region ?_) | (with_reducible refine W.ret ?_) | ((with_reducible apply W.condT); exact rfl) | ((with_reducible apply Done.f); (intro hh hh2; exact (nomatch hh2)); (focus ((repeat' first | exact all_nil | apply all_cons | exact res_tmp rfl | exact rfl); done)); (focus ((repeat' first | exact all_nil | apply all_cons | exact retOf_s rfl | exact rfl); done)); exact rfl; (focus ((repeat' first | exact outs_nil | (apply outs_mp; exact rfl; exact (by first | exact rfl)) | exact rfl); done))) | ((with_reducible apply WH.nil)) | (with_reducible refine W.draw ?_) | (intro hb; try (exfalso; omega)) | ((with_reducible apply WR.cv); exact rfl; exact rfl; (first | exact i64_in _ (by omega) | exact u64_in _ (by omega))) | ((with_reducible apply WR.st); exact rfl; exact rfl; exact rfl; exact rfl) | ((with_reducible apply WH.le); exact rfl; exact rfl; exact rfl) | ((with_reducible apply WH.lss); exact rfl; exact rfl; exact rfl) | ((with_reducible apply WH.leq); exact rfl; exact rfl; exact rfl) | ((with_reducible apply WH.cv); exact rfl; exact rfl; (first | exact i64_in _ (by omega) | exact u64_in _ (by omega)))
    all_goals rfl
  · have eS : nxtS (Tok.dat i) n seed = IntKind.u64.wrap (IntKind.u64.wrap (IntKind.u64.wrap (seed * 6364136223846793005) + 0) + 1442695040888963407) := by simp only [nxtS, nxtB, if_neg h]
    have eV : nxtV (Tok.dat i) n seed = lo8 (sh40 (nxtS (Tok.dat i) n seed)) := by simp only [nxtV]; rw [if_neg (by omega)]
    rw [eV, eS]
    have hlo := lo8_bound (sh40 (IntKind.u64.wrap (IntKind.u64.wrap (IntKind.u64.wrap (seed * 6364136223846793005) + 0) + 1442695040888963407)))
    repeat' first | ((with_reducible apply WR.mlu); exact rfl; exact rfl; exact rfl) | ((with_reducible apply WR.adu); exact rfl; exact rfl; exact rfl) | ((with_reducible apply WR.shu); exact rfl; exact rfl; exact rfl) | ((with_reducible apply WR.anu); exact rfl; exact rfl; exact rfl) | ((with_reducible apply WR.mv); exact rfl; exact rfl) | ((with_reducible apply WH.mv); exact rfl; exact rfl; exact rfl) | ((with_reducible apply WH.lx); exact rfl; exact rfl; exact rfl) | ((with_reducible apply WH.fa); exact rfl; exact rfl; exact rfl) | ((with_reducible apply WH.nc); exact rfl; exact rfl; exact rfl) | ((with_reducible apply WR.fa); exact rfl; exact rfl) | ((with_reducible apply WR.nc); exact rfl; exact rfl) | ((with_reducible apply WR.ad); exact rfl; exact rfl; exact rfl; (first | exact i64_in _ (by omega) | exact u64_in _ (by omega))) | ((with_reducible apply WR.lx); exact rfl; exact rfl) | ((with_reducible apply WR.nil)) | (with_reducible refine andThen_n ?_) | (with_reducible refine W.seq ?_) | (with_reducible refine W.region ?_) | (with_reducible refine W.skip ?_) | (with_reducible refine W.ret ?_) | ((with_reducible apply W.condF); exact rfl) | ((with_reducible apply Done.f); (intro hh hh2; exact (nomatch hh2)); (focus ((repeat' first | exact all_nil | apply all_cons | exact res_tmp rfl | exact rfl); done)); (focus ((repeat' first | exact all_nil | apply all_cons | exact retOf_s rfl | exact rfl); done)); exact rfl; (focus ((repeat' first | exact outs_nil | (apply outs_mp; exact rfl; exact (by first | exact rfl)) | exact rfl); done))) | ((with_reducible apply WH.nil)) | (with_reducible refine W.draw ?_) | (intro hb; try (exfalso; omega)) | ((with_reducible apply WR.cv); exact rfl; exact rfl; (first | exact i64_in _ (by omega) | exact u64_in _ (by omega))) | ((with_reducible apply WR.st); exact rfl; exact rfl; exact rfl; exact rfl) | ((with_reducible apply WH.le); exact rfl; exact rfl; exact rfl) | ((with_reducible apply WH.lss); exact rfl; exact rfl; exact rfl) | ((with_reducible apply WH.leq); exact rfl; exact rfl; exact rfl)
    all_goals rfl
theorem tmod_bound {x n : Int} (hx : 0 ≤ x) (hn : 0 < n) : 0 ≤ x.tmod n ∧ x.tmod n < n :=
  ⟨Int.tmod_nonneg _ hx, Int.tmod_lt_of_pos _ hn⟩
theorem pick_gives (i n : Nat) (seed m : Int) (hn : n ≤ 1000000000) (hl : (Tok.dat i).length ≤ 1000000000) (hm : m ≤ 200) :
    ∃ (r : Int) (n' : Nat) (seed' : Int), 0 ≤ r ∧ (m ≤ 1 → r = 0) ∧ (1 ≤ m → r < m) ∧ n' ≤ n + 1 ∧ Gives G 377 [.mp (srcC i n seed), ai .i64 m] ⟨[.s (.int .i64 r)], [srcC i n' seed']⟩ := by
  by_cases h : m ≤ 1
  · refine ⟨0, n, seed, by omega, fun _ => rfl, fun _ => by omega, by omega, ?_⟩
    refine Gives.by rfl rfl (W.seq ?_)
    repeat' first | ((with_reducible apply WR.mv); exact rfl; exact rfl) | ((with_reducible apply WR.nil)) | (with_reducible refine andThen_n ?_) | (with_reducible refine andThen_r ?_) | (with_reducible refine W.seq ?_) | (with_reducible refine W.region ?_) | (with_reducible refine W.ret ?_) | ((with_reducible apply W.condT); exact rfl) | ((with_reducible apply Done.f); (intro hh hh2; exact (nomatch hh2)); (focus ((repeat' first | exact all_nil | apply all_cons | exact res_tmp rfl); done)); (focus ((repeat' first | exact all_nil | apply all_cons | exact retOf_s rfl); done)); exact rfl; (focus ((repeat' first | exact outs_nil | apply outs_d | (apply outs_mp; exact rfl; exact (by first | (simp only [grid_len, gridB_len, encC_length, encI_length, List.length_set]; done)))); done))) | (intro hb; try (exfalso; omega)) | ((with_reducible apply WR.leq); exact rfl; exact rfl; exact rfl)
    all_goals first | rfl | (exfalso; omega)
  · have hv := nxtV_bound (Tok.dat i) n seed
    have hb := tmod_bound (x := nxtV (Tok.dat i) n seed) (n := m) hv.1 (by omega)
    refine ⟨_, n + 1, nxtS (Tok.dat i) n seed, hb.1, fun _ => by omega, fun _ => hb.2, by omega, ?_⟩
    refine Gives.by rfl rfl (W.seq ?_)
    repeat' first | ((with_reducible apply WR.c_ws (f := 379) (fn := Code.f379)); exact rfl; exact rfl; exact rfl; (focus ((repeat' first | exact args_nil | (apply args_p; exact rfl; exact rfl) | exact all_nil | apply all_cons | exact rfl); done)); exact next_gives i n seed hn hl; (focus ((repeat' first | exact backs_nil | (apply backs_p; exact rfl; exact rfl; exact (by first | exact rfl)) | exact rfl); done)); dsimp only [insertAll]) | ((with_reducible apply WR.rmi); exact rfl; exact rfl; exact rfl; omega) | ((with_reducible apply WR.mv); exact rfl; exact rfl) | ((with_reducible apply WR.nil)) | (with_reducible refine andThen_n ?_) | (with_reducible refine W.seq ?_) | (with_reducible refine W.region ?_) | (with_reducible refine W.skip ?_) | (with_reducible refine W.ret ?_) | ((with_reducible apply W.condF); exact rfl) | ((with_reducible apply Done.f); (intro hh hh2; exact (nomatch hh2)); (focus ((repeat' first | exact all_nil | apply all_cons | exact res_tmp rfl | exact rfl); done)); (focus ((repeat' first | exact all_nil | apply all_cons | exact retOf_s rfl | exact rfl); done)); exact rfl; (focus ((repeat' first | exact outs_nil | apply outs_d | (apply outs_mp; exact rfl; exact (by first | exact rfl)) | exact rfl); done))) | (intro hb; try (exfalso; omega)) | ((with_reducible apply WR.leq); exact rfl; exact rfl; exact rfl) | ((with_reducible apply WR.gtr); exact rfl; exact rfl; exact rfl)
    all_goals first | rfl | (exfalso; omega)
theorem from_gives (i : Nat) : Gives G 375 [.d (.s (.tok i))] ⟨[.ownp (srcC i 0 0)], []⟩ := by
  refine Gives.by rfl rfl (W.seq ?_)
  repeat' first | ((with_reducible apply WR.mv); exact rfl; exact rfl) | ((with_reducible apply WR.nil)) | (with_reducible refine andThen_n ?_) | (with_reducible refine W.seq ?_) | (with_reducible refine W.region ?_) | (with_reducible refine W.ret ?_) | ((with_reducible apply Done.f); (intro hh hh2; exact (nomatch hh2)); (focus ((repeat' first | exact all_nil | apply all_cons | exact res_tmp rfl | exact rfl); done)); (focus ((repeat' first | exact all_nil | apply all_cons | exact rfl); done)); exact rfl; (focus ((repeat' first | exact outs_nil | apply outs_d | exact rfl); done))) | ((with_reducible apply WR.bx); exact rfl; exact rfl; exact (by first | exact rfl); (exact rfl)) | ((with_reducible apply WR.bu); exact rfl; exact rfl)
  rfl
section
variable {Γ : Nat → Option Fn} {dsts : Nat → Option Nat} {ops : List Oper} {Q : St → Prop} {σ : St} {d : Option Nat} {g : Option (Nat × Bool)} {l1 l2 l3 l4 : List Nat}
theorem WR.c_n {f e : Nat} {xs : List Opd} {fn : Fn} {as : List Arg} {b0 : List S} (hw : wanted dsts σ.env g = some true) (hΓ : Γ f = some fn) (hn : mutIds fn.muts (xs.map (ev σ.env)) = []) (hb : backs σ fn.muts (xs.map (ev σ.env)) [] = some []) (ha : args σ [] fn.muts (xs.map (ev σ.env)) = some as) (hg : Gives Γ f as ⟨[.ownp b0], []⟩) (hp : noPar σ [e] = true)
    (k : WR Γ dsts ops Q (set (some e) (.a (.ptr e 0)) (put e (.flat false b0) (kill [e] σ)))) : WR Γ dsts (⟨some e, .call f xs, g, l1, l2, l3, l4⟩ :: ops) Q σ := by
  refine WR.call (d := e) (v := .a (.ptr e 0)) (ps := []) (ns := [(e, .flat false b0)]) hw rfl rfl hΓ (by rw [hn]; rfl) (by rw [hn]; exact ha) hg hb rfl rfl hp ?_
  simp only [List.nil_append, List.append_nil, List.map_nil, List.map_cons, insertAll, kill_nil]
  exact k
theorem WH.c_n {f e : Nat} {xs : List Opd} {fn : Fn} {as : List Arg} {b0 : List S} (hw : wanted dsts (kill l1 (only l3 σ)).env g = some true) (hΓ : Γ f = some fn) (hn : mutIds fn.muts (xs.map (ev (kill l1 (only l3 σ)).env)) = []) (hb : backs (kill l1 (only l3 σ)) fn.muts (xs.map (ev (kill l1 (only l3 σ)).env)) [] = some []) (ha : args (kill l1 (only l3 σ)) [] fn.muts (xs.map (ev (kill l1 (only l3 σ)).env)) = some as) (hg : Gives Γ f as ⟨[.ownp b0], []⟩) (hp : noPar σ [e] = true) (hi : ([e] : List Nat).all l2.contains = true) (hv : killV l1 (.a (.ptr e 0)) = .a (.ptr e 0))
    (k : WH Γ dsts ops Q (set (some e) (.a (.ptr e 0)) (put e (.flat false b0) (kill [e] σ)))) : WH Γ dsts (⟨some e, .call f xs, g, l1, l2, l3, l4⟩ :: ops) Q σ := by
  refine WH.call (d := e) (v := .a (.ptr e 0)) (ps := []) (ns := [(e, .flat false b0)]) (vs := xs.map (ev (kill l1 (only l3 σ)).env)) hw rfl rfl hΓ (by rw [hn]; rfl) (by rw [hn]; exact ha) hg hb rfl rfl hp (by simpa using hi) (by simpa using hi) hv rfl ?_
  simp only [List.nil_append, List.append_nil, List.map_nil, List.map_cons, insertAll, kill_nil]
  exact k
end
def DoneP (fn : Fn) (as : List Arg) (P : Res → Prop) (e : Ex) (σ : St) : Prop := ∃ r, P r ∧ Done fn as r e σ
theorem DoneP.mk {fn : Fn} {as : List Arg} {P : Res → Prop} {e : Ex} {σ : St} {r : Res} (h : Done fn as r e σ) (hp : P r) : DoneP fn as P e σ := ⟨r, hp, h⟩
theorem GivesP.by {Γ : Nat → Option Fn} {f : Nat} {fn : Fn} {as : List Arg} {P : Res → Prop} (hf : Γ f = some fn) (hm : (fn.given.isNone && marked fn.muts as) = true) (h : W Γ fn.body (DoneP fn as P) (enter as)) : ∃ r, P r ∧ Gives Γ f as r := by
  obtain ⟨n, e, σ', hx, r, hP, hD⟩ := h
  exact ⟨r, hP, Gives.by hf hm ⟨n, e, σ', hx, hD⟩⟩
def lwn (w h : Int) (q : Nat → Int) : List S := [.int .i8 w, .int .i8 h] ++ grid .u8 q
theorem isLwn (w h : Int) (q : Nat → Int) (hw : -128 ≤ w ∧ w ≤ 127) (hh : -128 ≤ h ∧ h ≤ 127) (hq : ∀ k, k < 100 → 0 ≤ q k ∧ q k ≤ 255) : IsLawn w h q (lwn w h q) :=
  ⟨hw, hh, hq, by simp [lwn, grid_len], rfl, rfl, fun k hk => by
    unfold lwn
    rw [List.getElem?_append_right (by simp)]
    simpa using grid_get hk⟩
theorem stLw {p : Bool} {w h : Int} {q : Nat → Int} {x y n : Int} (hb : 0 ≤ x ∧ x < 10 ∧ 0 ≤ y ∧ y < 10) : storeO 1 (.a (.d (.s (.int .u8 n)))) (0 + 2 + y.toNat * 10 + x.toNat * 1) (.flat p (lwn w h q)) = some (.flat p (lwn w h (gset q (10 * y.toNat + x.toNat) n))) := by
  rw [storeAt (k := 2 + (10 * y.toNat + x.toNat)) (by simp [lwn, grid_len]; omega) (by omega)]
  unfold lwn
  rw [← grid_set (k := .u8) (q := q) n (show 10 * y.toNat + x.toNat < 100 by omega)]
  rw [List.set_append_right _ _ (by simp)]
  congr 5
  simp
def kindsOk (w h : Int) (q : Nat → Int) : Prop := ∀ k, k < 100 → 0 ≤ q k ∧ cellOk w h q k
theorem kindsOk.set {w h : Int} {q : Nat → Int} (hq : kindsOk w h q) {x y n : Int} (hb : 0 ≤ x ∧ x < w ∧ 0 ≤ y ∧ y < h) (hw : w ≤ 10) (hn : 0 ≤ n ∧ n ≤ 3) : kindsOk w h (gset q (10 * y.toNat + x.toNat) n) := by
  intro k hk
  have h0 := hq k hk
  simp only [cellOk, gset] at h0 ⊢
  split
  · rename_i e
    subst e
    omega
  · exact h0
theorem lwn_is {w h : Int} {q : Nat → Int} (hw : 1 ≤ w ∧ w ≤ 6) (hh : 1 ≤ h ∧ h ≤ 6) (hq : kindsOk w h q) : IsLawn w h q (lwn w h q) :=
  isLwn w h q (by omega) (by omega) (fun k hk => by have := hq k hk; simp only [cellOk] at this; omega)
theorem lwn_ok {w h : Int} {q : Nat → Int} (hw : 1 ≤ w ∧ w ≤ 6) (hh : 1 ≤ h ∧ h ≤ 6) (hq : kindsOk w h q) : LawnOk w h q :=
  ⟨by omega, by omega, fun k hk => (hq k hk).2⟩
end Go.DM
