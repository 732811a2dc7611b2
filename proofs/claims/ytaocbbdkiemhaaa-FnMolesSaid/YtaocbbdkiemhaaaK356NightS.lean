/- Maps of cells with a number each: rules. -/
import Derived.Test.YtaocbbdkiemhaaaK356Rule2
import Derived.Test.YtaocbbdkiemhaaaK356Loop
import Derived.Test.YtaocbbdkiemhaaaK356Beside
set_option linter.unusedSimpArgs false
set_option linter.unusedVariables false
namespace Go.DM
set_option linter.unusedSectionVars false
variable [Tok]
open Go.IntWalk
abbrev KC : List SK := [.int .i8, .int .i8]
def encM (M : List (Cel × Int)) : List (List S × List S) := M.map fun p => ([.int .i8 p.1.1, .int .i8 p.1.2], [.int .i64 p.2])
def cntM : List (Cel × Int) → Cel → Int
  | [], _ => 0
  | p :: r, c => if p.1 = c then p.2 else cntM r c
def hasM : List (Cel × Int) → Cel → Bool
  | [], _ => false
  | p :: r, c => if p.1 = c then true else hasM r c
def idxM : List (Cel × Int) → Cel → Nat
  | [], _ => 0
  | p :: r, c => if p.1 = c then 0 else idxM r c + 1
def entM (M : List (Cel × Int)) (c : Cel) : List (Cel × Int) := if hasM M c then M else M ++ [(c, 0)]
def stoM (j : Nat) (n : Int) (M : List (Cel × Int)) : List (Cel × Int) := match M[j]? with | some p => M.set j (p.1, n) | none => M
def bumpM (M : List (Cel × Int)) (c : Cel) : List (Cel × Int) := stoM (idxM M c) (cntM M c + 1) (entM M c)
theorem eqKey (x y x' y' : Int) : eqSs [.int .i8 x, .int .i8 y] [.int .i8 x', .int .i8 y'] = decide ((x', y') = (x, y)) := by
  simp only [eqSs, eqS, Bool.and_true, Prod.mk.injEq]
  by_cases h1 : x = x'
  · by_cases h2 : y = y'
    · subst h1; subst h2; simp
    · simp [h1, h2, Ne.symm h2]
  · simp [h1, Ne.symm h1]
theorem mfind_M {x y : Int} : ∀ M : List (Cel × Int), (mfind [.int .i8 x, .int .i8 y] (encM M)).getD [.int .i64 0] = [.int .i64 (cntM M (x, y))] ∧ (mfind [.int .i8 x, .int .i8 y] (encM M)).isSome = hasM M (x, y) ∧ midx [.int .i8 x, .int .i8 y] (encM M) = idxM M (x, y)
  | [] => ⟨rfl, rfl, rfl⟩
  | ((x', y'), n) :: r => by
    obtain ⟨h1, h2, h3⟩ := mfind_M (x := x) (y := y) r
    simp only [encM, List.map_cons, mfind, midx, eqKey] at h1 h2 h3 ⊢
    by_cases h : (x', y') = (x, y)
    · simp only [h, decide_true, if_true, cntM, hasM, idxM]; simp
    · simp only [h, decide_false, Bool.false_eq_true, if_false, cntM, hasM, idxM]
      exact ⟨h1, h2, by rw [h3]⟩
theorem mentry_M {x y : Int} (M : List (Cel × Int)) : mentry [.int .i8 x, .int .i8 y] [.int .i64 0] (encM M) = encM (entM M (x, y)) := by
  unfold mentry entM
  rw [(mfind_M M).2.1]
  cases hasM M (x, y) with
  | true => rfl
  | false => simp [encM]
theorem mstore_M {j : Nat} {n : Int} (M : List (Cel × Int)) : mstore j [.int .i64 n] (encM M) = encM (stoM j n M) := by
  unfold mstore stoM encM
  rw [List.getElem?_map]
  cases h : M[j]? with
  | none => simp
  | some p => simp [List.map_set]
theorem encM_len (M : List (Cel × Int)) : (encM M).length = M.length := by simp [encM]
theorem idxM_le : ∀ (M : List (Cel × Int)) (c : Cel), (hasM M c = true → idxM M c < M.length ∧ ∃ n, M[idxM M c]? = some (c, n)) ∧ (hasM M c = false → idxM M c = M.length)
  | [], c => ⟨fun h => (by cases h), fun _ => rfl⟩
  | p :: r, c => by
    obtain ⟨h1, h2⟩ := idxM_le r c
    simp only [hasM, idxM]
    by_cases h : p.1 = c
    · simp only [h, if_true]
      exact ⟨fun _ => ⟨by simp, p.2, by simp [← h]⟩, fun h => (by cases h)⟩
    · simp only [h, if_false]
      exact ⟨fun hh => ⟨by have := (h1 hh).1; simp; omega, (h1 hh).2.imp fun n hn => by simpa using hn⟩, fun hh => by rw [h2 hh]; rfl⟩
theorem entM_at (M : List (Cel × Int)) (c : Cel) : idxM M c < (entM M c).length ∧ ∃ n, (entM M c)[idxM M c]? = some (c, n) := by
  obtain ⟨h1, h2⟩ := idxM_le M c
  unfold entM
  cases h : hasM M c with
  | true => exact h1 h
  | false =>
    rw [h2 h]
    exact ⟨by simp, 0, by simp⟩
theorem cntM_end (c c' : Cel) : ∀ M : List (Cel × Int), cntM (M ++ [(c, 0)]) c' = cntM M c'
  | [] => by simp only [List.nil_append, cntM]; split <;> rfl
  | p :: r => by
    simp only [List.cons_append, cntM]
    split
    · rfl
    · exact cntM_end c c' r
theorem cntM_entM (M : List (Cel × Int)) (c c' : Cel) : cntM (entM M c) c' = cntM M c' := by
  unfold entM
  split
  · rfl
  · exact cntM_end c c' M
theorem idxM_end (c : Cel) : ∀ M : List (Cel × Int), hasM M c = false → idxM (M ++ [(c, 0)]) c = idxM M c
  | [], _ => by simp [idxM]
  | p :: r, h => by
    simp only [hasM] at h
    split at h
    · cases h
    · rename_i hne
      simp only [List.cons_append, idxM, hne, if_false, idxM_end c r h]
theorem idxM_entM (M : List (Cel × Int)) (c : Cel) : idxM (entM M c) c = idxM M c := by
  unfold entM
  cases h : hasM M c with
  | true => simp
  | false => simpa using idxM_end c M h
theorem cntM_set {n : Int} {c c' : Cel} : ∀ {M : List (Cel × Int)}, idxM M c < M.length → cntM (M.set (idxM M c) (c, n)) c' = if c' = c then n else cntM M c'
  | [], h => by simp at h
  | p :: r, h => by
    by_cases hp : p.1 = c
    · simp only [idxM, hp, if_true, List.set_cons_zero, cntM]
      by_cases hc : c' = c
      · subst hc; simp
      · simp only [hc, if_false, Ne.symm hc]
    · simp only [idxM, hp, if_false, List.length_cons] at h ⊢
      have ih := cntM_set (n := n) (c := c) (c' := c') (M := r) (by omega)
      simp only [List.set_cons_succ, cntM, ih]
      by_cases hc : c' = c
      · subst hc; simp [hp]
      · simp [hc]
/-- A count more. -/
theorem cntM_bump (M : List (Cel × Int)) (c c' : Cel) : cntM (bumpM M c) c' = if c' = c then cntM M c + 1 else cntM M c' := by
  obtain ⟨h1, n, h2⟩ := entM_at M c
  unfold bumpM stoM
  rw [h2]
  have h3 := cntM_set (n := cntM M c + 1) (c := c) (c' := c') (M := entM M c) (by rw [idxM_entM]; exact h1)
  rw [idxM_entM, cntM_entM] at h3
  exact h3
theorem noPar_putm {σ : St} {o p : Nat} {ks : List SK} {es : List (List S × List S)} (h : noPar σ [o] = true) : noPar (put p (.map ks es) σ) [o] = true := by
  rw [noPar_one] at h ⊢
  intro cs' e
  simp only [put, upd] at e
  split at e
  · cases e
  · exact h _ e
section
variable {Γ : Nat → Option Fn} {dsts : Nat → Option Nat} {ops : List Oper} {Q : St → Prop} {σ : St} {d : Option Nat} {g : Option (Nat × Bool)} {l1 l2 l3 l4 : List Nat} {call : Calls}
theorem quiet_mget {m k : Opd} {o : Nat} {M : List (Cel × Int)} {x y : Int} (hm : ev σ.env m = .a (.mp o)) (ho : σ.objs o = some (.map KC (encM M))) (hk : ev σ.env k = .a (.d (.agg [.int .i8 x, .int .i8 y]))) :
    quiet σ (.mget 1 [.int .i64 0] [.int .i8, .int .i8] false m k) = some (.a (.d (.s (.int .i64 (cntM M (x, y)))))) := by
  have h := (mfind_M (x := x) (y := y) M).1
  simp [quiet, hm, mapOf, ho, hk, cellsA, hasKs, hasK, h, ofCells, sv]
theorem quiet_mgetd {m k : Opd} {M : List (Cel × Int)} {x y : Int} (hm : ev σ.env m = .a (.d (.map KC (encM M)))) (hk : ev σ.env k = .a (.d (.agg [.int .i8 x, .int .i8 y]))) :
    quiet σ (.mget 1 [.int .i64 0] [.int .i8, .int .i8] false m k) = some (.a (.d (.s (.int .i64 (cntM M (x, y)))))) := by
  have h := (mfind_M (x := x) (y := y) M).1
  simp [quiet, hm, mapOf, hk, cellsA, hasKs, hasK, h, ofCells, sv]
theorem WR.mgetd {m k : Opd} {M : List (Cel × Int)} {x y : Int} (hw : wanted dsts σ.env g = some true) (hm : ev σ.env m = .a (.d (.map KC (encM M)))) (hk : ev σ.env k = .a (.d (.agg [.int .i8 x, .int .i8 y])))
    (K : WR Γ dsts ops Q (set d (.a (.d (.s (.int .i64 (cntM M (x, y)))))) σ)) : WR Γ dsts (⟨d, .mget 1 [.int .i64 0] [.int .i8, .int .i8] false m k, g, l1, l2, l3, l4⟩ :: ops) Q σ := WR.q hw (quiet_mgetd hm hk) K
theorem WH.mgetd {m k : Opd} {M : List (Cel × Int)} {x y : Int} (hw : wanted dsts (kill l1 (only l3 σ)).env g = some true) (hm : ev (kill l1 (only l3 σ)).env m = .a (.d (.map KC (encM M)))) (hk : ev (kill l1 (only l3 σ)).env k = .a (.d (.agg [.int .i8 x, .int .i8 y])))
    (K : WH Γ dsts ops Q (set d (.a (.d (.s (.int .i64 (cntM M (x, y)))))) σ)) : WH Γ dsts (⟨d, .mget 1 [.int .i64 0] [.int .i8, .int .i8] false m k, g, l1, l2, l3, l4⟩ :: ops) Q σ := WH.q hw (quiet_mgetd hm hk) rfl K
theorem WH.mget {m k : Opd} {o : Nat} {M : List (Cel × Int)} {x y : Int} (hw : wanted dsts (kill l1 (only l3 σ)).env g = some true) (hm : ev (kill l1 (only l3 σ)).env m = .a (.mp o)) (ho : (kill l1 (only l3 σ)).objs o = some (.map KC (encM M))) (hk : ev (kill l1 (only l3 σ)).env k = .a (.d (.agg [.int .i8 x, .int .i8 y])))
    (K : WH Γ dsts ops Q (set d (.a (.d (.s (.int .i64 (cntM M (x, y)))))) σ)) : WH Γ dsts (⟨d, .mget 1 [.int .i64 0] [.int .i8, .int .i8] false m k, g, l1, l2, l3, l4⟩ :: ops) Q σ := WH.q hw (quiet_mget hm ho hk) rfl K
theorem WR.mkm {e : Nat} (hw : wanted dsts σ.env g = some true) (hp : noPar σ [e] = true) (k : WR Γ dsts ops Q (set (some e) (.a (.mp e)) (put e (.map KC (encM [])) (kill [e] σ)))) : WR Γ dsts (⟨some e, .mkm [.int .i8, .int .i8], g, l1, l2, l3, l4⟩ :: ops) Q σ :=
  WR.mk (d := e) (ob := .map KC (encM [])) hw rfl rfl (by simp [makes, encM]) hp k
theorem WH.ment {m k : Opd} {o : Nat} {M : List (Cel × Int)} {x y : Int} (hw : wanted dsts (kill l1 (only l3 σ)).env g = some true) (hm : ev (kill l1 (only l3 σ)).env m = .a (.mp o)) (ho : (kill l1 (only l3 σ)).objs o = some (.map KC (encM M))) (hk : ev (kill l1 (only l3 σ)).env k = .a (.d (.agg [.int .i8 x, .int .i8 y]))) (hi : l2.contains o = true)
    (K : WH Γ dsts ops Q (set d (.tup [.dead, .d (.s (.int .i64 (idxM M (x, y) : Nat)))]) (put o (.map KC (encM (entM M (x, y)))) σ))) : WH Γ dsts (⟨d, .ment 1 [.int .i64 0] [.int .i8, .int .i8] m k, g, l1, l2, l3, l4⟩ :: ops) Q σ := by
  have h1 := (mfind_M (x := x) (y := y) M).2.2
  have h2 := mentry_M (x := x) (y := y) M
  have hd : ∀ call, delta Γ call d (kill l1 (only l3 σ)) (.ment 1 [.int .i64 0] [.int .i8, .int .i8] m k) = some { v := .tup [.dead, .d (.s (.int .i64 (idxM M (x, y) : Nat)))], puts := [(o, .map KC (encM (entM M (x, y))))] } := fun call => by
    simp [delta, hm, ho, hk, cellsA, hasKs, hasK, h1, h2]
  refine WH.cons ⟨0, stepH_dl hw (hd _) (by simp only [within, List.all_cons, List.all_nil, hi]; rfl) rfl⟩ ?_
  simp only [applyD, hideD, insertAll, List.map_cons, List.map_nil, killO, killV, deadA, kill_nil]
  exact K
theorem WH.mest {m s v : Opd} {o j : Nat} {n : Int} {M : List (Cel × Int)} (hw : wanted dsts (kill l1 (only l3 σ)).env g = some true) (hm : ev (kill l1 (only l3 σ)).env m = .a (.mp o)) (ho : (kill l1 (only l3 σ)).objs o = some (.map KC (encM M))) (hs : ev (kill l1 (only l3 σ)).env s = .a (.d (.s (.int .i64 (j : Nat))))) (hv : ev (kill l1 (only l3 σ)).env v = .a (.d (.s (.int .i64 n)))) (hj : j < M.length) (hi : l2.contains o = true)
    (K : WH Γ dsts ops Q (put o (.map KC (encM (stoM j n M))) σ)) : WH Γ dsts (⟨none, .mest 1 m s v, g, l1, l2, l3, l4⟩ :: ops) Q σ := by
  have h2 := mstore_M (j := j) (n := n) M
  have hd : ∀ call, delta Γ call none (kill l1 (only l3 σ)) (.mest 1 m s v) = some { v := .undef, puts := [(o, .map KC (encM (stoM j n M)))] } := fun call => by
    simp [delta, hm, ho, hs, hv, cellsA, encM_len, hj, h2]
  refine WH.cons ⟨0, stepH_dl hw (hd _) (by simp only [within, List.all_cons, List.all_nil, hi]; rfl) rfl⟩ ?_
  simp only [applyD, hideD, insertAll, List.map_cons, List.map_nil, killO, killV, deadA, kill_nil]
  exact K
end
end Go.DM

/- A mole's night: the reference's side gives the same. -/
set_option linter.unusedSimpArgs false
set_option linter.unusedVariables false
set_option maxHeartbeats 4000000
namespace Go.DM
set_option linter.unusedSectionVars false
variable [Tok]
open Go.IntWalk
variable {w h : Int} {g : Nat → Int} {cs : List S} {q : Nat → Int} {qs : List S}

def roundP (w h : Int) (g : Nat → Int) (b : Cel) (r : Nat) (c : Cel) : Prop := Is w h g 0 c.1 c.2 ∧ ¬ (r = 0 ∧ c.1 = b.1 ∧ c.2 = b.2)
instance (w h : Int) (g : Nat → Int) (b : Cel) (r : Nat) : DecidablePred (roundP w h g b r) := fun c => inferInstanceAs (Decidable (_ ∧ _))
def seen (w h : Int) (g q : Nat → Int) (a b : Cel) (r i : Nat) : List Cel := ((inside w h (Near a.1 a.2)).take i).filter fun c => decide (roundP w h g b r c)
theorem lowest_snoc (q : Nat → Int) (a c : Cel) (l : List Cel) : lowest q a (l ++ [c]) = if l = [] ∨ lv q c < lv q (lowest q a l) then c else lowest q a l := by
  cases l with
  | nil => simp [lowest]
  | cons d r => simp [lowest, List.foldl_append]
theorem near_ne {a c : Cel} (h : c ∈ Near a.1 a.2) : c ≠ a := by
  intro e; subst e
  have : ∀ x y : Int, (x, y) ∉ Near x y := by intro x y; simp [Near]; omega
  exact this _ _ h
theorem low_a {a : Cel} {l : List Cel} (hl : ∀ c ∈ l, c ≠ a) : lowest q a l = a ↔ l = [] := by
  constructor
  · intro h
    rcases lowest_mem q a l with h2 | h2
    · cases l with
      | nil => rfl
      | cons d r =>
        exfalso
        have : lowest q a (d :: r) ∈ d :: r := by
          rcases lowest_mem q d (d :: r) with h3 | h3
          · have e : lowest q d (d :: r) = lowest q a (d :: r) := rfl
            rw [← e, h3]; exact List.mem_cons_self ..
          · exact h3
        exact hl _ this h
    · exact absurd h (hl _ h2)
  · rintro rfl; rfl
theorem seen_sub {a b : Cel} {r i : Nat} {c : Cel} (hc : c ∈ seen w h g q a b r i) : c ∈ Near a.1 a.2 ∧ Is w h g 0 c.1 c.2 := by
  unfold seen at hc
  rw [List.mem_filter] at hc
  have h2 := List.mem_of_mem_take hc.1
  unfold inside at h2
  rw [List.mem_filter] at h2
  refine ⟨h2.1, ?_⟩
  have := hc.2
  simp only [decide_eq_true_eq] at this
  exact this.1
theorem seen_step {a b : Cel} {r i : Nat} (hi : i < (inside w h (Near a.1 a.2)).length) : seen w h g q a b r (i + 1) = seen w h g q a b r i ++ (if roundP w h g b r (gC (inside w h (Near a.1 a.2)) i) then [gC (inside w h (Near a.1 a.2)) i] else []) := by
  unfold seen; rw [filter_snoc (gC_get hi)]; congr 1; simp only [decide_eq_true_eq]
theorem seen_all {a b : Cel} {r : Nat} : seen w h g q a b r (inside w h (Near a.1 a.2)).length = (kept (fun c => ¬ Is w h g 0 c.1 c.2) (Near a.1 a.2)).filter fun c => decide (¬ (r = 0 ∧ c.1 = b.1 ∧ c.2 = b.2)) := by
  unfold seen inside kept
  rw [List.take_length, List.filter_filter, List.filter_filter]
  apply List.filter_congr
  intro c _
  by_cases h1 : Is w h g 0 c.1 c.2
  · have h2 : Has w h c.1 c.2 := h1.1
    simp [roundP, h1, h2]
  · simp [roundP, h1]
theorem seen_no {a b : Cel} {r i : Nat} (hi : i < (inside w h (Near a.1 a.2)).length) (hp : ¬ roundP w h g b r (gC (inside w h (Near a.1 a.2)) i)) : lowest q a (seen w h g q a b r (i + 1)) = lowest q a (seen w h g q a b r i) := by
  rw [seen_step hi, if_neg hp, List.append_nil]
theorem seen_yes {a b : Cel} {r i : Nat} (hi : i < (inside w h (Near a.1 a.2)).length) (hp : roundP w h g b r (gC (inside w h (Near a.1 a.2)) i)) : lowest q a (seen w h g q a b r (i + 1)) =
    if lowest q a (seen w h g q a b r i) = a ∨ lv q (gC (inside w h (Near a.1 a.2)) i) < lv q (lowest q a (seen w h g q a b r i)) then gC (inside w h (Near a.1 a.2)) i else lowest q a (seen w h g q a b r i) := by
  rw [seen_step hi, if_pos hp, lowest_snoc]
  have := low_a (q := q) (a := a) (l := seen w h g q a b r i) fun c hc => near_ne (seen_sub hc).1
  simp only [this]
def roundR (w h : Int) (g q : Nat → Int) (a b : Cel) (r : Nat) : Cel := lowest q a (seen w h g q a b r (inside w h (Near a.1 a.2)).length)
theorem goes_rounds (a b : Cel) : goes w h g q a b = if roundR w h g q a b 0 = a then roundR w h g q a b 1 else roundR w h g q a b 0 := by
  unfold roundR
  rw [seen_all, seen_all]
  have hn : (Near a.1 a.2).Nodup := by
    simp [Near]; omega
  have hN : (kept (fun c => ¬ Is w h g 0 c.1 c.2) (Near a.1 a.2)).Nodup := hn.filter _
  have hne : ∀ c ∈ kept (fun c => ¬ Is w h g 0 c.1 c.2) (Near a.1 a.2), c ≠ a := fun c hc => near_ne (kept_mem hc).1
  unfold goes
  dsimp only
  generalize kept (fun c => ¬ Is w h g 0 c.1 c.2) (Near a.1 a.2) = N at hN hne ⊢
  have e1 : (N.filter fun c => decide (¬ (1 = 0 ∧ c.1 = b.1 ∧ c.2 = b.2))) = N := by simp
  have e0 : (N.filter fun c => decide (¬ (0 = 0 ∧ c.1 = b.1 ∧ c.2 = b.2))) = kept (fun c => c.1 = b.1 ∧ c.2 = b.2) N := by simp [kept]
  rw [e1, show (N.filter fun c => decide (¬ (0 = 0 ∧ c.1 = b.1 ∧ c.2 = b.2))) = kept (fun c => c.1 = b.1 ∧ c.2 = b.2) N from e0]
  have hk : ∀ c ∈ kept (fun c => c.1 = b.1 ∧ c.2 = b.2) N, c ≠ a := fun c hc => hne c (kept_mem hc).1
  have hk := low_a (q := q) hk
  simp only [hk]
  by_cases h1 : 1 < N.length
  · rw [if_pos h1, if_neg]
    intro hnil
    have hall : ∀ c ∈ N, c = b := by
      intro c hc
      apply Classical.byContradiction
      intro hcb
      have : c ∈ kept (fun c => c.1 = b.1 ∧ c.2 = b.2) N := by
        unfold kept
        rw [List.mem_filter]
        refine ⟨hc, ?_⟩
        simp only [decide_eq_true_eq]
        intro hh; exact hcb (Prod.ext hh.1 hh.2)
      rw [hnil] at this; cases this
    match N, hN, hall, h1 with
    | x :: y :: r, hN, hall, _ =>
      have hx := hall x (by simp)
      have hy := hall y (by simp)
      simp [hx, hy] at hN
  · rw [if_neg h1]
    match N, h1 with
    | [], _ => rfl
    | [c], _ =>
      by_cases hc : c.1 = b.1 ∧ c.2 = b.2
      · have : kept (fun c => c.1 = b.1 ∧ c.2 = b.2) [c] = [] := by simp [kept, hc]
        rw [this, if_pos rfl]
      · have : kept (fun c => c.1 = b.1 ∧ c.2 = b.2) [c] = [c] := by simp [kept]; omega
        rw [this, if_neg (by simp)]
    | x :: y :: r, h1 => simp at h1

theorem nightLev_length {t : Cel} : (nightLev q qs t).length = qs.length := by
  unfold nightLev; split
  · rw [List.length_set]
  · rfl
theorem nightS_gives (l : IsLawn w h g cs) (v : IsLev q qs) (hs : w ≤ 10 ∧ h ≤ 10) (a b : Cel) (ha : 0 ≤ a.1 ∧ a.1 < 10 ∧ 0 ≤ a.2 ∧ a.2 < 10) :
    Gives G 53 [.mp (moleS a b), ar cs, .mp qs] ⟨[], [moleS (goes w h g q a b) a, nightLev q qs (goes w h g q a b)]⟩ := by
  refine Gives.by rfl rfl (W.seq ?_)
  repeat' first | ((with_reducible apply WR.c_o (f := 85) (fn := Code.f85)); exact rfl; exact rfl; exact rfl; (first | exact rfl); (focus ((repeat' first | exact args_nil | apply args_d | exact toD_d rfl | exact rfl); done)); exact l01Beside_gives (by assumption) _ _ (by omega); (first | exact rfl)) | ((with_reducible apply WR.mv); exact rfl; exact rfl) | ((with_reducible apply WR.ld); exact rfl; exact rfl; exact rfl; (first | exact ld2)) | ((with_reducible apply WR.fa); exact rfl; exact rfl) | ((with_reducible apply WR.nc); exact rfl; exact rfl) | ((with_reducible apply WR.st); exact rfl; exact rfl; exact rfl; exact st2) | ((with_reducible apply WR.nil)) | (with_reducible refine andThen_n ?_) | (with_reducible refine W.seq ?_) | (with_reducible refine W.region ?_) | (with_reducible refine W.block ?_) | ((with_reducible apply WR.al); exact rfl; (first | exact rfl))
  have hL := inside_len (w := w) (h := h) (l := Near a.1 a.2)
  rw [show (Near a.1 a.2).length = 4 from rfl] at hL
  (refine (?_ : W _ (Code.loop _) _ _))
  (refine W.loopM [0, 1, 2, 6, 7] [0, 2] [] (fun zz : (Nat) × (Cel) => match zz with | (r, t) => (2 - r : Nat)) (fun zz : (Nat) × (Cel) => match zz with | (r, t) => (r ≤ 2 ∧ (r = 0 ∧ t = a ∨ r = 1 ∧ t = roundR w h g q a b 0 ∨ r = 2 ∧ roundR w h g q a b 0 = a ∧ t = roundR w h g q a b 1) : Prop)) (fun zz : (Nat) × (Cel) => match zz with | (r, t) => [(8, .a (.d (.s (.int .i64 (r : Nat)))))]) (fun zz : (Nat) × (Cel) => match zz with | (r, t) => [(7, .flat false ([.int .i8 t.1, .int .i8 t.2])), (15, .flat false (encC (inside w h (Near a.1 a.2))))]) (0, a) (⟨by omega, .inl ⟨rfl, rfl⟩⟩) ⟨rfl, trivial⟩ ⟨rfl, rfl, trivial⟩ trivial ?_)
  rintro ⟨r, t⟩ σ hP hN; dsimp only [setL, putL] at hP ⊢
  have hGo := goes_rounds (w := w) (h := h) (g := g) (q := q) a b
  have hin := goes_in (g := g) hs q (b := b) ha
  generalize hT : goes w h g q a b = T at hGo hin ⊢
  repeat' first | ((with_reducible apply WH.mv); exact rfl; exact rfl; exact rfl) | ((with_reducible apply WR.mv); exact rfl; exact rfl) | ((with_reducible apply WH.ld); exact rfl; exact rfl; exact rfl; (first | exact ld2); exact rfl) | ((with_reducible apply WH.lx); exact rfl; exact rfl; exact rfl) | ((with_reducible apply WH.off); exact rfl) | ((with_reducible apply WH.fa); exact rfl; exact rfl; exact rfl) | ((with_reducible apply WH.nc); exact rfl; exact rfl; exact rfl) | ((with_reducible apply WH.pk); exact rfl; exact rfl; exact rfl) | ((with_reducible apply WR.nil)) | (with_reducible refine andThen_n ?_) | (with_reducible refine andThen_x ?_) | (with_reducible refine inB_x ?_) | (with_reducible refine W.seq ?_) | (with_reducible refine W.region ?_) | (with_reducible refine W.skip ?_) | (with_reducible refine W.exit ?_) | (with_reducible refine W.block ?_) | ((with_reducible apply W.condT); exact rfl) | ((with_reducible apply W.condF); exact rfl) | ((with_reducible apply WH.lss); exact rfl; exact rfl; exact rfl) | ((with_reducible apply WH.ec); exact rfl; exact rfl; exact rfl) | ((with_reducible apply WH.nil)) | (with_reducible refine W.draw ?_) | (intro hb; try (exfalso; omega))
  · have hr : r < 2 := by omega
    have hta : t = a := Prod.ext (by assumption : t.1 = a.1 ∧ t.2 = a.2).1 (by assumption : t.1 = a.1 ∧ t.2 = a.2).2
    (refine (?_ : W _ (Code.loop _) _ _))
    (refine W.loopM [0, 1, 2, 6, 7, 8] [0, 2] [] (fun zz : (Nat) × (Cel) => match zz with | (i, u) => ((inside w h (Near a.1 a.2)).length - i : Nat)) (fun zz : (Nat) × (Cel) => match zz with | (i, u) => (i ≤ (inside w h (Near a.1 a.2)).length ∧ u = lowest q a (seen w h g q a b r i) ∧ (0 ≤ u.1 ∧ u.1 < 10 ∧ 0 ≤ u.2 ∧ u.2 < 10) : Prop)) (fun zz : (Nat) × (Cel) => match zz with | (i, u) => [(9, .a (.d (.s (.int .i64 (i : Nat)))))]) (fun zz : (Nat) × (Cel) => match zz with | (i, u) => [(7, .flat false ([.int .i8 u.1, .int .i8 u.2])), (15, .flat false (encC (inside w h (Near a.1 a.2))))]) (0, t) (⟨by omega, by rw [hta]; rfl, by rw [hta]; exact ha⟩) ⟨rfl, trivial⟩ ⟨rfl, rfl, trivial⟩ trivial ?_)
    rintro ⟨i, u⟩ σ hP hN; dsimp only [setL, putL] at hP ⊢
    obtain ⟨hi, hu, hub⟩ := hP
    repeat' first | ((with_reducible apply WH.mv); exact rfl; exact rfl; exact rfl) | ((with_reducible apply WR.mv); exact rfl; exact rfl) | ((with_reducible apply WH.ld); exact rfl; exact rfl; exact rfl; (first | exact ldC (by first | omega)); exact rfl) | ((with_reducible apply WR.nil)) | (with_reducible refine andThen_n ?_) | (with_reducible refine andThen_x ?_) | (with_reducible refine inB_n ?_) | (with_reducible refine inB_x ?_) | (with_reducible refine W.seq ?_) | (with_reducible refine W.region ?_) | (with_reducible refine W.skip ?_) | (with_reducible refine W.exit ?_) | (with_reducible refine W.block ?_) | ((with_reducible apply W.condT); exact rfl) | ((with_reducible apply W.condF); exact rfl) | ((with_reducible apply WH.isn); exact rfl; exact rfl; exact rfl; omega; exact rfl) | (with_reducible refine W.draw ?_) | (intro hb; try (exfalso; omega)) | ((with_reducible apply WR.ad); exact rfl; exact rfl; exact rfl; (first | exact i64_in _ (by omega))) | ((with_reducible apply WR.lss); exact rfl; exact rfl; exact rfl) | ((with_reducible apply WR.le); exact rfl; exact rfl)
    · have hi : i < (inside w h (Near a.1 a.2)).length := by omega
      have hm := gC_mem hi
      have hH : Has w h (gC (inside w h (Near a.1 a.2)) i).1 (gC (inside w h (Near a.1 a.2)) i).2 := by
        unfold inside at hm ⊢; rw [List.mem_filter] at hm; simpa using hm.2
      have hno := seen_no (q := q) (r := r) (b := b) (g := g) hi
      have hyes := seen_yes (q := q) (r := r) (b := b) (g := g) hi
      repeat' first | ((with_reducible apply WH.c_p (f := 51) (fn := Code.f51)); exact rfl; exact rfl; exact rfl; (first | exact rfl); (focus ((repeat' first | exact args_nil | apply args_d | exact toD_d rfl | exact toD_ptr rfl rfl | exact rfl); done)); exact l01Grass_gives (by assumption) _ _ (by omega) (by omega)) | ((with_reducible apply WH.c_s (f := 93) (fn := Code.f93)); exact rfl; exact rfl; exact rfl; (first | exact rfl); (focus ((repeat' first | exact args_nil | apply args_d | exact toD_d rfl | exact toD_ptr rfl rfl | exact rfl); done)); exact l06At_gives (by assumption) _ _ (by omega); exact rfl) | ((with_reducible apply WH.mv); exact rfl; exact rfl; exact rfl) | ((with_reducible apply WR.mv); exact rfl; exact rfl) | ((with_reducible apply WH.ld); exact rfl; exact rfl; exact rfl; (first | exact ld2 | exact ldC (by first | omega)); exact rfl) | ((with_reducible apply WH.off); exact rfl) | ((with_reducible apply WH.fa); exact rfl; exact rfl; exact rfl) | ((with_reducible apply WH.nc); exact rfl; exact rfl; exact rfl) | ((with_reducible apply WR.ld); exact rfl; exact rfl; exact rfl; (first | exact ld2 | exact ldC (by first | omega))) | ((with_reducible apply WR.st); exact rfl; exact rfl; exact rfl; exact st2) | ((with_reducible apply WH.pk); exact rfl; exact rfl; exact rfl) | ((with_reducible apply WR.nil)) | (with_reducible refine andThen_n ?_) | (with_reducible refine andThen_x ?_) | (with_reducible refine inB_n ?_) | (with_reducible refine inB_x ?_) | (with_reducible refine W.seq ?_) | (with_reducible refine W.region ?_) | (with_reducible refine W.skip ?_) | (with_reducible refine W.exit ?_) | ((with_reducible apply W.condT); exact rfl) | ((with_reducible apply W.condF); exact rfl) | ((with_reducible apply WH.lss); exact rfl; exact rfl; exact rfl) | ((with_reducible apply WH.ec); exact rfl; exact rfl; exact rfl) | ((with_reducible apply WH.isn); exact rfl; exact rfl; exact rfl; omega; exact rfl) | ((with_reducible apply WH.nil)) | (with_reducible refine W.draw ?_) | (intro hb; try (exfalso; omega)) | ((with_reducible apply WR.ad); exact rfl; exact rfl; exact rfl; (first | exact i64_in _ (by omega))) | ((with_reducible apply WR.isn); exact rfl; exact rfl; exact rfl; omega) | ((with_reducible apply WH.eql); exact rfl; exact rfl; exact rfl) | ((with_reducible apply WH.un); exact rfl; exact rfl; exact rfl)
      all_goals first
        | ((refine W.nxt (i + 1, u) (by first | omega | (dsimp only; omega)) ?_ ⟨rfl, trivial⟩ ⟨rfl, rfl, trivial⟩ ⟨rfl, rfl, rfl, rfl, rfl, rfl, trivial⟩ ⟨rfl, rfl, trivial⟩ trivial); (try dsimp only); refine ⟨by omega, ?_, hub⟩)
        | ((refine W.nxt (i + 1, gC (inside w h (Near a.1 a.2)) i) (by first | omega | (dsimp only; omega)) ?_ ⟨rfl, trivial⟩ ⟨rfl, rfl, trivial⟩ ⟨rfl, rfl, rfl, rfl, rfl, rfl, trivial⟩ ⟨rfl, rfl, trivial⟩ trivial); (try dsimp only); refine ⟨by omega, ?_, by omega⟩)
      all_goals first
        | exact hu.trans (hno (by rintro ⟨h1, h2⟩; first | contradiction | exact h2 ⟨by omega, by assumption⟩)).symm
        | (rw [hyes ⟨by assumption, fun h2 => by first | exact absurd h2.2 (by assumption) | omega⟩, ← hu]
           first
             | rw [if_pos (.inl (Prod.ext (by assumption : u.1 = a.1 ∧ u.2 = a.2).1 (by assumption : u.1 = a.1 ∧ u.2 = a.2).2))]
             | rw [if_pos (.inr (by assumption : lv q (gC (inside w h (Near a.1 a.2)) i) < lv q u))]
             | rw [if_neg (by rintro (h2 | h2); exact absurd (show u.1 = a.1 ∧ u.2 = a.2 by rw [h2]; exact ⟨rfl, rfl⟩) (by assumption); exact absurd h2 (by assumption))])
    · have hil : i = (inside w h (Near a.1 a.2)).length := by omega
      (refine W.nxt (r + 1, u) (by first | omega | (dsimp only; omega)) ?_ ⟨rfl, trivial⟩ ⟨rfl, rfl, trivial⟩ ⟨rfl, rfl, rfl, rfl, rfl, trivial⟩ ⟨rfl, rfl, trivial⟩ trivial); (try dsimp only)
      refine ⟨by omega, ?_⟩
      have hu' : u = roundR w h g q a b r := by rw [hu, hil]; rfl
      have : r = 0 ∨ r = 1 := by omega
      rcases this with rfl | rfl
      · exact .inr (.inl ⟨rfl, hu'⟩)
      · rcases hP with ⟨_, hP⟩
        rcases hP with ⟨h1, _⟩ | ⟨_, h1⟩ | ⟨h1, _⟩
        · cases h1
        · exact .inr (.inr ⟨rfl, by rw [← h1, hta], hu'⟩)
        · cases h1
  all_goals
    have htT : t = T := by
      rcases hP with ⟨h0, ⟨h1, h2⟩ | ⟨h1, h2⟩ | ⟨h1, h2, h3⟩⟩
      · exfalso
        first
          | omega
          | exact absurd (show t.1 = a.1 ∧ t.2 = a.2 by rw [h2]; exact ⟨rfl, rfl⟩) (by assumption)
      · first
          | (exfalso; omega)
          | rw [hGo, if_neg (fun e => absurd (show t.1 = a.1 ∧ t.2 = a.2 by rw [h2, e]; exact ⟨rfl, rfl⟩) (by assumption)), h2]
      · rw [hGo, if_pos h2, h3]
    subst htT
    clear hP hGo hN
    have hq := v.cb (10 * t.2.toNat + t.1.toNat) (by omega)
    repeat' first | ((with_reducible apply WH.mv); exact rfl; exact rfl; exact rfl) | ((with_reducible apply WR.mv); exact rfl; exact rfl) | ((with_reducible apply WH.ld); exact rfl; exact rfl; exact rfl; (first | exact ld2 | exact lev_c (by assumption) (by omega)); exact rfl) | ((with_reducible apply WH.lx); exact rfl; exact rfl; exact rfl) | ((with_reducible apply WH.fa); exact rfl; exact rfl; exact rfl) | ((with_reducible apply WH.ia); exact rfl; exact rfl; exact rfl; omega; exact rfl) | ((with_reducible apply WH.nc); exact rfl; exact rfl; exact rfl) | ((with_reducible apply WR.ld); exact rfl; exact rfl; exact rfl; (first | exact ld2 | exact lev_c (by assumption) (by omega))) | ((with_reducible apply WR.fa); exact rfl; exact rfl) | ((with_reducible apply WR.nc); exact rfl; exact rfl) | ((with_reducible apply WR.st); exact rfl; exact rfl; exact rfl; exact stM0) | ((with_reducible apply WR.st); exact rfl; exact rfl; exact rfl; exact stM2) | ((with_reducible apply WR.nil)) | (with_reducible refine andThen_n ?_) | (with_reducible refine W.seq ?_) | (with_reducible refine W.region ?_) | (with_reducible refine W.skip ?_) | ((with_reducible apply W.condT); exact rfl) | ((with_reducible apply W.condF); exact rfl) | ((with_reducible apply Done.f); (intro hh hh2; exact (nomatch hh2)); (focus ((repeat' first | exact all_nil | exact rfl); done)); (focus ((repeat' first | exact all_nil | exact rfl); done)); exact rfl; (focus ((repeat' first | exact outs_nil | apply outs_d | (apply outs_mp; exact rfl; exact (by first | exact IsLev.len (by assumption) | (simp only [grid_len, gridB_len, encC_length, encI_length, List.length_set]; done) | exact rfl)) | exact rfl); done))) | ((with_reducible apply WH.lss); exact rfl; exact rfl; exact rfl) | ((with_reducible apply WH.nil)) | (with_reducible refine W.draw ?_) | (intro hb; try (exfalso; omega)) | ((with_reducible apply WH.ad); exact rfl; exact rfl; exact rfl; (first | exact i8_in _ (by omega))) | ((with_reducible apply WH.st); exact rfl; exact rfl; exact rfl; exact storeL (by assumption) (by omega); exact rfl; exact rfl)
  all_goals
    unfold nightLev
    first
      | rw [if_pos (by assumption : lv q t < 9)]
      | rw [if_neg (by assumption : ¬ lv q t < 9)]
    rfl
end Go.DM
