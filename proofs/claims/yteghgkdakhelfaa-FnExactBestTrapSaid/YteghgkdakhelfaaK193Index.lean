/- More rules: two cells that are compared. -/
import Derived.Test.YteghgkdakhelfaaK193Rule
import Derived.Test.YteghgkdakhelfaaK193Night
set_option linter.unusedSimpArgs false
set_option linter.unusedVariables false
namespace Go.DM
theorem noPar_mixT {σ σ0 : St} {o : Nat} {L LO : List Nat} (hn : has LO o = true) (h : noPar σ0 [o] = true) : noPar (mix L LO σ0 σ) [o] = true := by
  rw [noPar_one] at h ⊢
  intro cs' e
  simp only [mix, hn, cond_true] at e
  exact h _ e
section
variable {Γ : Nat → Option Fn} {dsts : Nat → Option Nat} {ops : List Oper} {Q : St → Prop} {σ : St} {d : Option Nat} {g : Option (Nat × Bool)} {l1 l2 l3 l4 : List Nat}
theorem en_q {σ : St} {a b : Opd} {x y x' y' : Int} (ha : ev σ.env a = .a (.d (.agg [.int .i8 x, .int .i8 y]))) (hb : ev σ.env b = .a (.d (.agg [.int .i8 x', .int .i8 y']))) : quiet σ (.eqa true true [.int .i8, .int .i8] a b) = some (.a (.d (.s (.bool (decide (¬ (x = x' ∧ y = y'))))))) := by
  have e : ∀ p q : Int, (p == q) = decide (p = q) := fun p q => rfl
  by_cases h1 : x = x' <;> by_cases h2 : y = y' <;> simp [quiet, ha, hb, cellsA, hasKs, hasK, eqSs, eqS, sv, e, h1, h2]
theorem WR.en {a b : Opd} {x y x' y' : Int} (hw : wanted dsts σ.env g = some true) (ha : ev σ.env a = .a (.d (.agg [.int .i8 x, .int .i8 y]))) (hb : ev σ.env b = .a (.d (.agg [.int .i8 x', .int .i8 y'])))
    (k1 : ¬ (x = x' ∧ y = y') → WR Γ dsts ops Q (set d (.a (.d (.s (.bool true)))) σ)) (k2 : x = x' ∧ y = y' → WR Γ dsts ops Q (set d (.a (.d (.s (.bool false)))) σ)) : WR Γ dsts (⟨d, .eqa true true [.int .i8, .int .i8] a b, g, l1, l2, l3, l4⟩ :: ops) Q σ := by
  by_cases h : x = x' ∧ y = y'
  · exact WR.q hw (by rw [en_q ha hb]; simp only [h, and_self, not_true, decide_false]) (k2 h)
  · exact WR.q hw (by rw [en_q ha hb]; simp only [h, not_false_eq_true, decide_true]) (k1 h)
theorem WH.en {a b : Opd} {x y x' y' : Int} (hw : wanted dsts (kill l1 (only l3 σ)).env g = some true) (ha : ev (kill l1 (only l3 σ)).env a = .a (.d (.agg [.int .i8 x, .int .i8 y]))) (hb : ev (kill l1 (only l3 σ)).env b = .a (.d (.agg [.int .i8 x', .int .i8 y'])))
    (k1 : ¬ (x = x' ∧ y = y') → WH Γ dsts ops Q (set d (.a (.d (.s (.bool true)))) σ)) (k2 : x = x' ∧ y = y' → WH Γ dsts ops Q (set d (.a (.d (.s (.bool false)))) σ)) : WH Γ dsts (⟨d, .eqa true true [.int .i8, .int .i8] a b, g, l1, l2, l3, l4⟩ :: ops) Q σ := by
  by_cases h : x = x' ∧ y = y'
  · exact WH.q hw (by rw [show veil _ σ = kill l1 (only l3 σ) from rfl, en_q ha hb]; simp only [h, and_self, not_true, decide_false]) rfl (k2 h)
  · exact WH.q hw (by rw [show veil _ σ = kill l1 (only l3 σ) from rfl, en_q ha hb]; simp only [h, not_false_eq_true, decide_true]) rfl (k1 h)
/-- Two bools are compared. -/
theorem eb_q {σ : St} {ng : Bool} {a b : Opd} {x y : Bool} (ha : ev σ.env a = .a (.d (.s (.bool x)))) (hb : ev σ.env b = .a (.d (.s (.bool y)))) : quiet σ (.eqa ng false [.bool] a b) = some (.a (.d (.s (.bool ((x == y) != ng))))) := by
  cases ng <;> cases x <;> cases y <;> simp [quiet, ha, hb, cellsA, hasKs, hasK, eqSs, eqS, sv]
theorem WR.ebb {ng : Bool} {a b : Opd} {x y : Bool} (hw : wanted dsts σ.env g = some true) (ha : ev σ.env a = .a (.d (.s (.bool x)))) (hb : ev σ.env b = .a (.d (.s (.bool y))))
    (K : WR Γ dsts ops Q (set d (.a (.d (.s (.bool ((x == y) != ng))))) σ)) : WR Γ dsts (⟨d, .eqa ng false [.bool] a b, g, l1, l2, l3, l4⟩ :: ops) Q σ := WR.q hw (eb_q ha hb) K
theorem WH.ebb {ng : Bool} {a b : Opd} {x y : Bool} (hw : wanted dsts (kill l1 (only l3 σ)).env g = some true) (ha : ev (kill l1 (only l3 σ)).env a = .a (.d (.s (.bool x)))) (hb : ev (kill l1 (only l3 σ)).env b = .a (.d (.s (.bool y))))
    (K : WH Γ dsts ops Q (set d (.a (.d (.s (.bool ((x == y) != ng))))) σ)) : WH Γ dsts (⟨d, .eqa ng false [.bool] a b, g, l1, l2, l3, l4⟩ :: ops) Q σ := WH.q hw (eb_q ha hb) rfl K
end
end Go.DM

/- Maps of cells with a number each: rules. -/
set_option linter.unusedSimpArgs false
set_option linter.unusedVariables false
namespace Go.DM
open Go.IntWalk
abbrev KC : List SK := [.int .i8, .int .i8]
def encM (M : List (Cel × Int)) : List (List S × List S) := M.map fun p => ([.int .i8 p.1.1, .int .i8 p.1.2], [.int .i64 p.2])
def cntM : List (Cel × Int) → Cel → Int
  | [], _ => 0
  | p :: r, c => if p.1 = c then p.2 else cntM r c
def hasM : List (Cel × Int) → Cel → Bool
  | [], _ => false
  | p :: r, c => if p.1 = c then true else hasM r c
def idxM : List (Cel × Int) → Cel → Nat
  | [], _ => 0
  | p :: r, c => if p.1 = c then 0 else idxM r c + 1
def entM (M : List (Cel × Int)) (c : Cel) : List (Cel × Int) := if hasM M c then M else M ++ [(c, 0)]
def stoM (j : Nat) (n : Int) (M : List (Cel × Int)) : List (Cel × Int) := match M[j]? with | some p => M.set j (p.1, n) | none => M
def bumpM (M : List (Cel × Int)) (c : Cel) : List (Cel × Int) := stoM (idxM M c) (cntM M c + 1) (entM M c)
theorem eqKey (x y x' y' : Int) : eqSs [.int .i8 x, .int .i8 y] [.int .i8 x', .int .i8 y'] = decide ((x', y') = (x, y)) := by
  simp only [eqSs, eqS, Bool.and_true, Prod.mk.injEq]
  by_cases h1 : x = x'
  · by_cases h2 : y = y'
    · subst h1; subst h2; simp
    · simp [h1, h2, Ne.symm h2]
  · simp [h1, Ne.symm h1]
theorem mfind_M {x y : Int} : ∀ M : List (Cel × Int), (mfind [.int .i8 x, .int .i8 y] (encM M)).getD [.int .i64 0] = [.int .i64 (cntM M (x, y))] ∧ (mfind [.int .i8 x, .int .i8 y] (encM M)).isSome = hasM M (x, y) ∧ midx [.int .i8 x, .int .i8 y] (encM M) = idxM M (x, y)
  | [] => ⟨rfl, rfl, rfl⟩
  | ((x', y'), n) :: r => by
    obtain ⟨h1, h2, h3⟩ := mfind_M (x := x) (y := y) r
    simp only [encM, List.map_cons, mfind, midx, eqKey] at h1 h2 h3 ⊢
    by_cases h : (x', y') = (x, y)
    · simp only [h, decide_true, if_true, cntM, hasM, idxM]; simp
    · simp only [h, decide_false, Bool.false_eq_true, if_false, cntM, hasM, idxM]
      exact ⟨h1, h2, by rw [h3]⟩
theorem mentry_M {x y : Int} (M : List (Cel × Int)) : mentry [.int .i8 x, .int .i8 y] [.int .i64 0] (encM M) = encM (entM M (x, y)) := by
  unfold mentry entM
  rw [(mfind_M M).2.1]
  cases hasM M (x, y) with
  | true => rfl
  | false => simp [encM]
theorem mstore_M {j : Nat} {n : Int} (M : List (Cel × Int)) : mstore j [.int .i64 n] (encM M) = encM (stoM j n M) := by
  unfold mstore stoM encM
  rw [List.getElem?_map]
  cases h : M[j]? with
  | none => simp
  | some p => simp [List.map_set]
theorem encM_len (M : List (Cel × Int)) : (encM M).length = M.length := by simp [encM]
theorem idxM_le : ∀ (M : List (Cel × Int)) (c : Cel), (hasM M c = true → idxM M c < M.length ∧ ∃ n, M[idxM M c]? = some (c, n)) ∧ (hasM M c = false → idxM M c = M.length)
  | [], c => ⟨fun h => (by cases h), fun _ => rfl⟩
  | p :: r, c => by
    obtain ⟨h1, h2⟩ := idxM_le r c
    simp only [hasM, idxM]
    by_cases h : p.1 = c
    · simp only [h, if_true]
      exact ⟨fun _ => ⟨by simp, p.2, by simp [← h]⟩, fun h => (by cases h)⟩
    · simp only [h, if_false]
      exact ⟨fun hh => ⟨by have := (h1 hh).1; simp; omega, (h1 hh).2.imp fun n hn => by simpa using hn⟩, fun hh => by rw [h2 hh]; rfl⟩
theorem entM_at (M : List (Cel × Int)) (c : Cel) : idxM M c < (entM M c).length ∧ ∃ n, (entM M c)[idxM M c]? = some (c, n) := by
  obtain ⟨h1, h2⟩ := idxM_le M c
  unfold entM
  cases h : hasM M c with
  | true => exact h1 h
  | false =>
    rw [h2 h]
    exact ⟨by simp, 0, by simp⟩
theorem cntM_end (c c' : Cel) : ∀ M : List (Cel × Int), cntM (M ++ [(c, 0)]) c' = cntM M c'
  | [] => by simp only [List.nil_append, cntM]; split <;> rfl
  | p :: r => by
    simp only [List.cons_append, cntM]
    split
    · rfl
    · exact cntM_end c c' r
theorem cntM_entM (M : List (Cel × Int)) (c c' : Cel) : cntM (entM M c) c' = cntM M c' := by
  unfold entM
  split
  · rfl
  · exact cntM_end c c' M
theorem idxM_end (c : Cel) : ∀ M : List (Cel × Int), hasM M c = false → idxM (M ++ [(c, 0)]) c = idxM M c
  | [], _ => by simp [idxM]
  | p :: r, h => by
    simp only [hasM] at h
    split at h
    · cases h
    · rename_i hne
      simp only [List.cons_append, idxM, hne, if_false, idxM_end c r h]
theorem idxM_entM (M : List (Cel × Int)) (c : Cel) : idxM (entM M c) c = idxM M c := by
  unfold entM
  cases h : hasM M c with
  | true => simp
  | false => simpa using idxM_end c M h
theorem cntM_set {n : Int} {c c' : Cel} : ∀ {M : List (Cel × Int)}, idxM M c < M.length → cntM (M.set (idxM M c) (c, n)) c' = if c' = c then n else cntM M c'
  | [], h => by simp at h
  | p :: r, h => by
    by_cases hp : p.1 = c
    · simp only [idxM, hp, if_true, List.set_cons_zero, cntM]
      by_cases hc : c' = c
      · subst hc; simp
      · simp only [hc, if_false, Ne.symm hc]
    · simp only [idxM, hp, if_false, List.length_cons] at h ⊢
      have ih := cntM_set (n := n) (c := c) (c' := c') (M := r) (by omega)
      simp only [List.set_cons_succ, cntM, ih]
      by_cases hc : c' = c
      · subst hc; simp [hp]
      · simp [hc]
/-- A count more. -/
theorem cntM_bump (M : List (Cel × Int)) (c c' : Cel) : cntM (bumpM M c) c' = if c' = c then cntM M c + 1 else cntM M c' := by
  obtain ⟨h1, n, h2⟩ := entM_at M c
  unfold bumpM stoM
  rw [h2]
  have h3 := cntM_set (n := cntM M c + 1) (c := c) (c' := c') (M := entM M c) (by rw [idxM_entM]; exact h1)
  rw [idxM_entM, cntM_entM] at h3
  exact h3
theorem noPar_putm {σ : St} {o p : Nat} {ks : List SK} {es : List (List S × List S)} (h : noPar σ [o] = true) : noPar (put p (.map ks es) σ) [o] = true := by
  rw [noPar_one] at h ⊢
  intro cs' e
  simp only [put, upd] at e
  split at e
  · cases e
  · exact h _ e
section
variable {Γ : Nat → Option Fn} {dsts : Nat → Option Nat} {ops : List Oper} {Q : St → Prop} {σ : St} {d : Option Nat} {g : Option (Nat × Bool)} {l1 l2 l3 l4 : List Nat} {call : Calls}
theorem quiet_mget {m k : Opd} {o : Nat} {M : List (Cel × Int)} {x y : Int} (hm : ev σ.env m = .a (.mp o)) (ho : σ.objs o = some (.map KC (encM M))) (hk : ev σ.env k = .a (.d (.agg [.int .i8 x, .int .i8 y]))) :
    quiet σ (.mget 1 [.int .i64 0] [.int .i8, .int .i8] false m k) = some (.a (.d (.s (.int .i64 (cntM M (x, y)))))) := by
  have h := (mfind_M (x := x) (y := y) M).1
  simp [quiet, hm, mapOf, ho, hk, cellsA, hasKs, hasK, h, ofCells, sv]
theorem quiet_mgetd {m k : Opd} {M : List (Cel × Int)} {x y : Int} (hm : ev σ.env m = .a (.d (.map KC (encM M)))) (hk : ev σ.env k = .a (.d (.agg [.int .i8 x, .int .i8 y]))) :
    quiet σ (.mget 1 [.int .i64 0] [.int .i8, .int .i8] false m k) = some (.a (.d (.s (.int .i64 (cntM M (x, y)))))) := by
  have h := (mfind_M (x := x) (y := y) M).1
  simp [quiet, hm, mapOf, hk, cellsA, hasKs, hasK, h, ofCells, sv]
theorem WR.mgetd {m k : Opd} {M : List (Cel × Int)} {x y : Int} (hw : wanted dsts σ.env g = some true) (hm : ev σ.env m = .a (.d (.map KC (encM M)))) (hk : ev σ.env k = .a (.d (.agg [.int .i8 x, .int .i8 y])))
    (K : WR Γ dsts ops Q (set d (.a (.d (.s (.int .i64 (cntM M (x, y)))))) σ)) : WR Γ dsts (⟨d, .mget 1 [.int .i64 0] [.int .i8, .int .i8] false m k, g, l1, l2, l3, l4⟩ :: ops) Q σ := WR.q hw (quiet_mgetd hm hk) K
theorem WH.mgetd {m k : Opd} {M : List (Cel × Int)} {x y : Int} (hw : wanted dsts (kill l1 (only l3 σ)).env g = some true) (hm : ev (kill l1 (only l3 σ)).env m = .a (.d (.map KC (encM M)))) (hk : ev (kill l1 (only l3 σ)).env k = .a (.d (.agg [.int .i8 x, .int .i8 y])))
    (K : WH Γ dsts ops Q (set d (.a (.d (.s (.int .i64 (cntM M (x, y)))))) σ)) : WH Γ dsts (⟨d, .mget 1 [.int .i64 0] [.int .i8, .int .i8] false m k, g, l1, l2, l3, l4⟩ :: ops) Q σ := WH.q hw (quiet_mgetd hm hk) rfl K
theorem WH.mget {m k : Opd} {o : Nat} {M : List (Cel × Int)} {x y : Int} (hw : wanted dsts (kill l1 (only l3 σ)).env g = some true) (hm : ev (kill l1 (only l3 σ)).env m = .a (.mp o)) (ho : (kill l1 (only l3 σ)).objs o = some (.map KC (encM M))) (hk : ev (kill l1 (only l3 σ)).env k = .a (.d (.agg [.int .i8 x, .int .i8 y])))
    (K : WH Γ dsts ops Q (set d (.a (.d (.s (.int .i64 (cntM M (x, y)))))) σ)) : WH Γ dsts (⟨d, .mget 1 [.int .i64 0] [.int .i8, .int .i8] false m k, g, l1, l2, l3, l4⟩ :: ops) Q σ := WH.q hw (quiet_mget hm ho hk) rfl K
theorem WR.mkm {e : Nat} (hw : wanted dsts σ.env g = some true) (hp : noPar σ [e] = true) (k : WR Γ dsts ops Q (set (some e) (.a (.mp e)) (put e (.map KC (encM [])) (kill [e] σ)))) : WR Γ dsts (⟨some e, .mkm [.int .i8, .int .i8], g, l1, l2, l3, l4⟩ :: ops) Q σ :=
  WR.mk (d := e) (ob := .map KC (encM [])) hw rfl rfl (by simp [makes, encM]) hp k
theorem WH.ment {m k : Opd} {o : Nat} {M : List (Cel × Int)} {x y : Int} (hw : wanted dsts (kill l1 (only l3 σ)).env g = some true) (hm : ev (kill l1 (only l3 σ)).env m = .a (.mp o)) (ho : (kill l1 (only l3 σ)).objs o = some (.map KC (encM M))) (hk : ev (kill l1 (only l3 σ)).env k = .a (.d (.agg [.int .i8 x, .int .i8 y]))) (hi : l2.contains o = true)
    (K : WH Γ dsts ops Q (set d (.tup [.dead, .d (.s (.int .i64 (idxM M (x, y) : Nat)))]) (put o (.map KC (encM (entM M (x, y)))) σ))) : WH Γ dsts (⟨d, .ment 1 [.int .i64 0] [.int .i8, .int .i8] m k, g, l1, l2, l3, l4⟩ :: ops) Q σ := by
  have h1 := (mfind_M (x := x) (y := y) M).2.2
  have h2 := mentry_M (x := x) (y := y) M
  have hd : ∀ call, delta Γ call d (kill l1 (only l3 σ)) (.ment 1 [.int .i64 0] [.int .i8, .int .i8] m k) = some { v := .tup [.dead, .d (.s (.int .i64 (idxM M (x, y) : Nat)))], puts := [(o, .map KC (encM (entM M (x, y))))] } := fun call => by
    simp [delta, hm, ho, hk, cellsA, hasKs, hasK, h1, h2]
  refine WH.cons ⟨0, stepH_dl hw (hd _) (by simp only [within, List.all_cons, List.all_nil, hi]; rfl) rfl⟩ ?_
  simp only [applyD, hideD, insertAll, List.map_cons, List.map_nil, killO, killV, deadA, kill_nil]
  exact K
theorem WH.mest {m s v : Opd} {o j : Nat} {n : Int} {M : List (Cel × Int)} (hw : wanted dsts (kill l1 (only l3 σ)).env g = some true) (hm : ev (kill l1 (only l3 σ)).env m = .a (.mp o)) (ho : (kill l1 (only l3 σ)).objs o = some (.map KC (encM M))) (hs : ev (kill l1 (only l3 σ)).env s = .a (.d (.s (.int .i64 (j : Nat))))) (hv : ev (kill l1 (only l3 σ)).env v = .a (.d (.s (.int .i64 n)))) (hj : j < M.length) (hi : l2.contains o = true)
    (K : WH Γ dsts ops Q (put o (.map KC (encM (stoM j n M))) σ)) : WH Γ dsts (⟨none, .mest 1 m s v, g, l1, l2, l3, l4⟩ :: ops) Q σ := by
  have h2 := mstore_M (j := j) (n := n) M
  have hd : ∀ call, delta Γ call none (kill l1 (only l3 σ)) (.mest 1 m s v) = some { v := .undef, puts := [(o, .map KC (encM (stoM j n M)))] } := fun call => by
    simp [delta, hm, ho, hs, hv, cellsA, encM_len, hj, h2]
  refine WH.cons ⟨0, stepH_dl hw (hd _) (by simp only [within, List.all_cons, List.all_nil, hi]; rfl) rfl⟩ ?_
  simp only [applyD, hideD, insertAll, List.map_cons, List.map_nil, killO, killV, deadA, kill_nil]
  exact K
end
end Go.DM

/- slices.Index over cells. -/
set_option linter.unusedSimpArgs false
set_option linter.unusedVariables false
namespace Go.DM
open Go.IntWalk

theorem index_gives (l : List Cel) (hl : l.length ≤ 1000) (x y : Int) : Gives G 27 [asl l, ac x y] (ri .i64 (idxOf (fun c => x = c.1 ∧ y = c.2) l 0)) := by
  refine Gives.by rfl rfl (W.seq ?_)
  repeat' first | ((with_reducible apply WR.mv); exact rfl; exact rfl) | ((with_reducible apply WR.nil)) | (with_reducible refine andThen_n ?_) | (with_reducible refine W.seq ?_) | (with_reducible refine W.region ?_) | (with_reducible refine W.block ?_) | ((with_reducible apply WR.bo); exact rfl; exact rfl; (first | exact rfl)) | ((with_reducible apply WR.le); exact rfl; exact rfl)
  refine W.loopI (fun n σ => ∃ i : Int, n = (l.length - i).toNat ∧ 0 ≤ i ∧ i ≤ l.length ∧ idxOf (fun c => x = c.1 ∧ y = c.2) l 0 = idxOf (fun c => x = c.1 ∧ y = c.2) (l.drop i.toNat) i ∧ σ.env 8 = .a (.d (.s (.int .i64 i))) ∧ σ.env 7 = .a (.d (.s (.int .i64 (l.length : Nat)))) ∧ σ.env 0 = .a (.d (.sl l.length 2 (encC l))) ∧ σ.env 3 = .a (.ptr 3 0) ∧ σ.objs 3 = some (.flat false [.int .i8 x, .int .i8 y]))
    ?_ _ _ ⟨0, rfl, by omega, by omega, rfl, rfl, rfl, rfl, rfl, rfl⟩
  rintro n σ ⟨i, rfl, i0, i1, hi, e8, e7, e0, e3, o3⟩
  rw [← set_self e8, ← set_self e7, ← set_self e0, ← set_self e3, ← put_self o3]
  repeat' first | ((with_reducible apply WR.mv); exact rfl; exact rfl) | ((with_reducible apply WR.nil)) | (with_reducible refine andThen_n ?_) | (with_reducible refine andThen_x ?_) | (with_reducible refine inB_x ?_) | (with_reducible refine W.seq ?_) | (with_reducible refine W.region ?_) | (with_reducible refine W.skip ?_) | (with_reducible refine W.ret ?_) | (with_reducible refine W.exit ?_) | (with_reducible refine W.block ?_) | ((with_reducible apply W.condT); exact rfl) | ((with_reducible apply W.condF); exact rfl) | ((with_reducible apply Done.r); exact rfl) | (with_reducible refine W.draw ?_) | (intro hb; try (exfalso; omega)) | ((with_reducible apply WH.mv); exact rfl; exact rfl; exact rfl) | ((with_reducible apply WH.lx); exact rfl; exact rfl; exact rfl) | ((with_reducible apply WR.lss); exact rfl; exact rfl; exact rfl)
  · obtain ⟨c, hc⟩ := get_of_lt i0 (by assumption)
    (with_reducible apply WH.id); exact rfl; exact rfl; exact rfl; exact ⟨i0, by assumption⟩; exact Nat.le_of_eq (encC_length l).symm; exact rfl
    (with_reducible apply WH.ldd); exact rfl; exact rfl; exact encC_load l _ c hc; exact rfl
    repeat' first | ((with_reducible apply WR.mv); exact rfl; exact rfl) | ((with_reducible apply WR.nil)) | (with_reducible refine andThen_n ?_) | (with_reducible refine andThen_r ?_) | (with_reducible refine inB_n ?_) | (with_reducible refine inB_r ?_) | (with_reducible refine W.seq ?_) | (with_reducible refine W.region ?_) | (with_reducible refine W.skip ?_) | (with_reducible refine W.ret ?_) | ((with_reducible apply W.condT); exact rfl) | ((with_reducible apply W.condF); exact rfl) | ((with_reducible apply Done.r); exact rfl) | ((with_reducible apply WH.nil)) | (intro hb; try (exfalso; omega)) | ((with_reducible apply WR.ad); exact rfl; exact rfl; exact rfl; (first | exact i64_in _ (by omega))) | ((with_reducible apply WH.ec); exact rfl; exact rfl; exact rfl)
    all_goals first
      | (rw [hi, idxOf_step _ i0 hc, if_pos (by assumption)]; rfl)
      | exact ⟨_, by omega, i + 1, rfl, by omega, by omega, by rw [hi, idxOf_step _ i0 hc, if_neg (by assumption)], rfl, rfl, rfl, rfl, rfl⟩
  · have : l.drop i.toNat = [] := List.drop_eq_nil_of_le (by omega)
    rw [hi, this]; rfl
end Go.DM
