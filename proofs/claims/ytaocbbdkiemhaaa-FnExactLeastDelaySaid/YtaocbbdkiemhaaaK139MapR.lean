/- The least battery: both sides, the statement. -/
import Derived.Test.YtaocbbdkiemhaaaK139NightOf
import Derived.Test.YtaocbbdkiemhaaaK139Laws
import Derived.Test.YtaocbbdkiemhaaaK139Rule2
set_option linter.unusedSimpArgs false
set_option linter.unusedVariables false
set_option maxHeartbeats 4000000
namespace Go.DM
set_option linter.unusedSectionVars false
variable [Tok]
open Go.IntWalk
variable {w h : Int} {g : Nat → Int} {cs : List S}

theorem visit_inv {ok : Cel → Prop} [DecidablePred ok] (hs : w ≤ 10 ∧ h ≤ 10) (hok : ∀ e, ok e → Has w h e.1 e.2) {c e : Cel} {s : (Nat → Int) × List Cel} (b : BInv w h s.1 (c :: s.2)) : BInv w h (visit ok c s e).1 (c :: (visit ok c s e).2) := by
  unfold visit
  split
  · rename_i hh
    have := (b.push hs (List.mem_cons_self ..) (hok e hh.1) hh.2).1
    exact this
  · exact b
theorem fold_inv {ok : Cel → Prop} [DecidablePred ok] (hs : w ≤ 10 ∧ h ≤ 10) (hok : ∀ e, ok e → Has w h e.1 e.2) {c : Cel} : ∀ (L : List Cel) {s : (Nat → Int) × List Cel}, BInv w h s.1 (c :: s.2) → BInv w h (L.foldl (visit ok c) s).1 (c :: (L.foldl (visit ok c) s).2)
  | [], s, b => b
  | e :: r, s, b => fold_inv hs hok r (visit_inv hs hok b)
theorem bfs_b {ok : Cel → Prop} [DecidablePred ok] (hs : w ≤ 10 ∧ h ≤ 10) (hok : ∀ e, ok e → Has w h e.1 e.2) : ∀ (n : Nat) {s : (Nat → Int) × List Cel}, BInv w h s.1 s.2 → ∀ k, -1 ≤ bfs ok n s k ∧ bfs ok n s k ≤ 100
  | 0, s, b, k => ⟨b.lo k, by have := b.hi k; simp only [bfs]; omega⟩
  | n + 1, (d, []), b, k => ⟨b.lo k, by have := b.hi k; simp only [bfs] at *; omega⟩
  | n + 1, (d, c :: r), b, k => by
    have h1 := fold_inv hs hok (Near c.1 c.2) (s := (d, r)) b
    exact bfs_b hs hok n ⟨h1.lo, h1.hi, fun a ha => h1.q a (List.mem_cons_of_mem _ ha), by have := h1.len; rw [List.length_cons] at this; omega⟩ k
theorem far_b {ok : Cel → Prop} [DecidablePred ok] (hs : w ≤ 10 ∧ h ≤ 10) (hok : ∀ e, ok e → Has w h e.1 e.2) {c : Cel} (hc : Has w h c.1 c.2) (k : Nat) : -1 ≤ far ok c k ∧ far ok c k ≤ 100 :=
  bfs_b hs hok 100 (BInv.first hs hc).1 k
theorem far_congr {ok ok' : Cel → Prop} [d1 : DecidablePred ok] [d2 : DecidablePred ok'] (hh : ∀ c, ok c ↔ ok' c) (c : Cel) : far ok c = far ok' c := by
  have e : ok = ok' := funext fun c => propext (hh c)
  subst e
  have : d1 = d2 := Subsingleton.elim _ _
  rw [this]
/-- Steps over open cells. -/
def steps (w h : Int) (g : Nat → Int) (c : Cel) : Nat → Int := far (okS w h g false) c
theorem steps_eq (c : Cel) : far (okP w h fun c => Opn w h g c.1 c.2) c = steps w h g c := by
  unfold steps
  refine far_congr (fun e => ?_) c
  simp only [okP, okS, Opn, ix]
  constructor
  · rintro ⟨h1, _, h2⟩; exact ⟨h1, h2.imp id fun h => ⟨trivial, h⟩⟩
  · rintro ⟨h1, h2⟩; exact ⟨h1, h1, h2.imp id fun h => h.2⟩
theorem steps_b (hs : w ≤ 10 ∧ h ≤ 10) {c : Cel} (hc : Has w h c.1 c.2) (k : Nat) : -1 ≤ steps w h g c k ∧ steps w h g c k ≤ 100 := far_b hs (fun e he => he.1) hc k
def mostD (d : Nat → Int) (L : List Cel) : Int := L.foldl (fun s c => max s (d (ix c))) 0
theorem mostD_snoc (d : Nat → Int) {L : List Cel} {i : Nat} (hi : i < L.length) : mostD d (L.take (i + 1)) = max (mostD d (L.take i)) (d (ix (gC L i))) := by
  unfold mostD; rw [fold_snoc _ (gC_get hi)]
theorem mostD_b {d : Nat → Int} (hd : ∀ k, d k ≤ 100) : ∀ (L : List Cel) (s : Int), 0 ≤ s ∧ s ≤ 100 → 0 ≤ L.foldl (fun s c => max s (d (ix c))) s ∧ L.foldl (fun s c => max s (d (ix c))) s ≤ 100
  | [], s, h => h
  | c :: r, s, h => mostD_b hd r (max s (d (ix c))) (by have := hd (ix c); omega)

/-- The code of one cell that has to be open. -/
def openC (w h : Int) (g : Nat → Int) (c : Cel) : Int := belowCode (LawnOk w h g) (Has w h c.1 c.2) (Opn w h g c.1 c.2)
theorem openC_impl (c : Cel) : belowCode (LawnOk w h g) (∀ e ∈ ([c] : List Cel), Has w h e.1 e.2) (∀ e ∈ ([c] : List Cel), Opn w h g e.1 e.2) = openC w h g c := belowCode_congr Iff.rfl (by simp) (by simp)
theorem openC_spec (c : Cel) : belowCode (LawnOk w h g) (true = true ∧ ∀ e ∈ ([c] : List Cel), Has w h e.1 e.2) (∀ e ∈ ([c] : List Cel), Opn w h g e.1 e.2) = openC w h g c := belowCode_congr Iff.rfl (by simp) (by simp)
theorem openC_ok {c : Cel} (h0 : openC w h g c = 0) : (1 ≤ w ∧ w ≤ 10 ∧ 1 ≤ h ∧ h ≤ 10) ∧ Has w h c.1 c.2 ∧ Opn w h g c.1 c.2 := by
  obtain ⟨h1, h2, h3⟩ := belowCode_zero.1 h0
  exact ⟨⟨h1.1.1, h1.1.2, h1.2.1.1, h1.2.1.2⟩, h2, h3⟩
def batRes (w h : Int) (g : Nat → Int) (c : Cel) : Res := if openC w h g c = 0 then ⟨[.s (.int .i64 (2 * mostD (steps w h g c) (ofKind w h g 0))), .s (.int .i64 0)], []⟩ else ⟨[.s (.int .i64 0), .s (.int .i64 (openC w h g c))], []⟩
end Go.DM

/- Maps of cells with a number each: rules. -/
set_option linter.unusedSimpArgs false
set_option linter.unusedVariables false
namespace Go.DM
set_option linter.unusedSectionVars false
variable [Tok]
open Go.IntWalk
abbrev KC : List SK := [.int .i8, .int .i8]
def encM (M : List (Cel × Int)) : List (List S × List S) := M.map fun p => ([.int .i8 p.1.1, .int .i8 p.1.2], [.int .i64 p.2])
def cntM : List (Cel × Int) → Cel → Int
  | [], _ => 0
  | p :: r, c => if p.1 = c then p.2 else cntM r c
def hasM : List (Cel × Int) → Cel → Bool
  | [], _ => false
  | p :: r, c => if p.1 = c then true else hasM r c
def idxM : List (Cel × Int) → Cel → Nat
  | [], _ => 0
  | p :: r, c => if p.1 = c then 0 else idxM r c + 1
def entM (M : List (Cel × Int)) (c : Cel) : List (Cel × Int) := if hasM M c then M else M ++ [(c, 0)]
def stoM (j : Nat) (n : Int) (M : List (Cel × Int)) : List (Cel × Int) := match M[j]? with | some p => M.set j (p.1, n) | none => M
def bumpM (M : List (Cel × Int)) (c : Cel) : List (Cel × Int) := stoM (idxM M c) (cntM M c + 1) (entM M c)
theorem eqKey (x y x' y' : Int) : eqSs [.int .i8 x, .int .i8 y] [.int .i8 x', .int .i8 y'] = decide ((x', y') = (x, y)) := by
  simp only [eqSs, eqS, Bool.and_true, Prod.mk.injEq]
  by_cases h1 : x = x'
  · by_cases h2 : y = y'
    · subst h1; subst h2; simp
    · simp [h1, h2, Ne.symm h2]
  · simp [h1, Ne.symm h1]
theorem mfind_M {x y : Int} : ∀ M : List (Cel × Int), (mfind [.int .i8 x, .int .i8 y] (encM M)).getD [.int .i64 0] = [.int .i64 (cntM M (x, y))] ∧ (mfind [.int .i8 x, .int .i8 y] (encM M)).isSome = hasM M (x, y) ∧ midx [.int .i8 x, .int .i8 y] (encM M) = idxM M (x, y)
  | [] => ⟨rfl, rfl, rfl⟩
  | ((x', y'), n) :: r => by
    obtain ⟨h1, h2, h3⟩ := mfind_M (x := x) (y := y) r
    simp only [encM, List.map_cons, mfind, midx, eqKey] at h1 h2 h3 ⊢
    by_cases h : (x', y') = (x, y)
    · simp only [h, decide_true, if_true, cntM, hasM, idxM]; simp
    · simp only [h, decide_false, Bool.false_eq_true, if_false, cntM, hasM, idxM]
      exact ⟨h1, h2, by rw [h3]⟩
theorem mentry_M {x y : Int} (M : List (Cel × Int)) : mentry [.int .i8 x, .int .i8 y] [.int .i64 0] (encM M) = encM (entM M (x, y)) := by
  unfold mentry entM
  rw [(mfind_M M).2.1]
  cases hasM M (x, y) with
  | true => rfl
  | false => simp [encM]
theorem mstore_M {j : Nat} {n : Int} (M : List (Cel × Int)) : mstore j [.int .i64 n] (encM M) = encM (stoM j n M) := by
  unfold mstore stoM encM
  rw [List.getElem?_map]
  cases h : M[j]? with
  | none => simp
  | some p => simp [List.map_set]
theorem encM_len (M : List (Cel × Int)) : (encM M).length = M.length := by simp [encM]
theorem idxM_le : ∀ (M : List (Cel × Int)) (c : Cel), (hasM M c = true → idxM M c < M.length ∧ ∃ n, M[idxM M c]? = some (c, n)) ∧ (hasM M c = false → idxM M c = M.length)
  | [], c => ⟨fun h => (by cases h), fun _ => rfl⟩
  | p :: r, c => by
    obtain ⟨h1, h2⟩ := idxM_le r c
    simp only [hasM, idxM]
    by_cases h : p.1 = c
    · simp only [h, if_true]
      exact ⟨fun _ => ⟨by simp, p.2, by simp [← h]⟩, fun h => (by cases h)⟩
    · simp only [h, if_false]
      exact ⟨fun hh => ⟨by have := (h1 hh).1; simp; omega, (h1 hh).2.imp fun n hn => by simpa using hn⟩, fun hh => by rw [h2 hh]; rfl⟩
theorem entM_at (M : List (Cel × Int)) (c : Cel) : idxM M c < (entM M c).length ∧ ∃ n, (entM M c)[idxM M c]? = some (c, n) := by
  obtain ⟨h1, h2⟩ := idxM_le M c
  unfold entM
  cases h : hasM M c with
  | true => exact h1 h
  | false =>
    rw [h2 h]
    exact ⟨by simp, 0, by simp⟩
theorem cntM_end (c c' : Cel) : ∀ M : List (Cel × Int), cntM (M ++ [(c, 0)]) c' = cntM M c'
  | [] => by simp only [List.nil_append, cntM]; split <;> rfl
  | p :: r => by
    simp only [List.cons_append, cntM]
    split
    · rfl
    · exact cntM_end c c' r
theorem cntM_entM (M : List (Cel × Int)) (c c' : Cel) : cntM (entM M c) c' = cntM M c' := by
  unfold entM
  split
  · rfl
  · exact cntM_end c c' M
theorem idxM_end (c : Cel) : ∀ M : List (Cel × Int), hasM M c = false → idxM (M ++ [(c, 0)]) c = idxM M c
  | [], _ => by simp [idxM]
  | p :: r, h => by
    simp only [hasM] at h
    split at h
    · cases h
    · rename_i hne
      simp only [List.cons_append, idxM, hne, if_false, idxM_end c r h]
theorem idxM_entM (M : List (Cel × Int)) (c : Cel) : idxM (entM M c) c = idxM M c := by
  unfold entM
  cases h : hasM M c with
  | true => simp
  | false => simpa using idxM_end c M h
theorem cntM_set {n : Int} {c c' : Cel} : ∀ {M : List (Cel × Int)}, idxM M c < M.length → cntM (M.set (idxM M c) (c, n)) c' = if c' = c then n else cntM M c'
  | [], h => by simp at h
  | p :: r, h => by
    by_cases hp : p.1 = c
    · simp only [idxM, hp, if_true, List.set_cons_zero, cntM]
      by_cases hc : c' = c
      · subst hc; simp
      · simp only [hc, if_false, Ne.symm hc]
    · simp only [idxM, hp, if_false, List.length_cons] at h ⊢
      have ih := cntM_set (n := n) (c := c) (c' := c') (M := r) (by omega)
      simp only [List.set_cons_succ, cntM, ih]
      by_cases hc : c' = c
      · subst hc; simp [hp]
      · simp [hc]
/-- A count more. -/
theorem cntM_bump (M : List (Cel × Int)) (c c' : Cel) : cntM (bumpM M c) c' = if c' = c then cntM M c + 1 else cntM M c' := by
  obtain ⟨h1, n, h2⟩ := entM_at M c
  unfold bumpM stoM
  rw [h2]
  have h3 := cntM_set (n := cntM M c + 1) (c := c) (c' := c') (M := entM M c) (by rw [idxM_entM]; exact h1)
  rw [idxM_entM, cntM_entM] at h3
  exact h3
theorem noPar_putm {σ : St} {o p : Nat} {ks : List SK} {es : List (List S × List S)} (h : noPar σ [o] = true) : noPar (put p (.map ks es) σ) [o] = true := by
  rw [noPar_one] at h ⊢
  intro cs' e
  simp only [put, upd] at e
  split at e
  · cases e
  · exact h _ e
section
variable {Γ : Nat → Option Fn} {dsts : Nat → Option Nat} {ops : List Oper} {Q : St → Prop} {σ : St} {d : Option Nat} {g : Option (Nat × Bool)} {l1 l2 l3 l4 : List Nat} {call : Calls}
theorem quiet_mget {m k : Opd} {o : Nat} {M : List (Cel × Int)} {x y : Int} (hm : ev σ.env m = .a (.mp o)) (ho : σ.objs o = some (.map KC (encM M))) (hk : ev σ.env k = .a (.d (.agg [.int .i8 x, .int .i8 y]))) :
    quiet σ (.mget 1 [.int .i64 0] [.int .i8, .int .i8] false m k) = some (.a (.d (.s (.int .i64 (cntM M (x, y)))))) := by
  have h := (mfind_M (x := x) (y := y) M).1
  simp [quiet, hm, mapOf, ho, hk, cellsA, hasKs, hasK, h, ofCells, sv]
theorem quiet_mgetd {m k : Opd} {M : List (Cel × Int)} {x y : Int} (hm : ev σ.env m = .a (.d (.map KC (encM M)))) (hk : ev σ.env k = .a (.d (.agg [.int .i8 x, .int .i8 y]))) :
    quiet σ (.mget 1 [.int .i64 0] [.int .i8, .int .i8] false m k) = some (.a (.d (.s (.int .i64 (cntM M (x, y)))))) := by
  have h := (mfind_M (x := x) (y := y) M).1
  simp [quiet, hm, mapOf, hk, cellsA, hasKs, hasK, h, ofCells, sv]
theorem WR.mgetd {m k : Opd} {M : List (Cel × Int)} {x y : Int} (hw : wanted dsts σ.env g = some true) (hm : ev σ.env m = .a (.d (.map KC (encM M)))) (hk : ev σ.env k = .a (.d (.agg [.int .i8 x, .int .i8 y])))
    (K : WR Γ dsts ops Q (set d (.a (.d (.s (.int .i64 (cntM M (x, y)))))) σ)) : WR Γ dsts (⟨d, .mget 1 [.int .i64 0] [.int .i8, .int .i8] false m k, g, l1, l2, l3, l4⟩ :: ops) Q σ := WR.q hw (quiet_mgetd hm hk) K
theorem WH.mgetd {m k : Opd} {M : List (Cel × Int)} {x y : Int} (hw : wanted dsts (kill l1 (only l3 σ)).env g = some true) (hm : ev (kill l1 (only l3 σ)).env m = .a (.d (.map KC (encM M)))) (hk : ev (kill l1 (only l3 σ)).env k = .a (.d (.agg [.int .i8 x, .int .i8 y])))
    (K : WH Γ dsts ops Q (set d (.a (.d (.s (.int .i64 (cntM M (x, y)))))) σ)) : WH Γ dsts (⟨d, .mget 1 [.int .i64 0] [.int .i8, .int .i8] false m k, g, l1, l2, l3, l4⟩ :: ops) Q σ := WH.q hw (quiet_mgetd hm hk) rfl K
theorem WH.mget {m k : Opd} {o : Nat} {M : List (Cel × Int)} {x y : Int} (hw : wanted dsts (kill l1 (only l3 σ)).env g = some true) (hm : ev (kill l1 (only l3 σ)).env m = .a (.mp o)) (ho : (kill l1 (only l3 σ)).objs o = some (.map KC (encM M))) (hk : ev (kill l1 (only l3 σ)).env k = .a (.d (.agg [.int .i8 x, .int .i8 y])))
    (K : WH Γ dsts ops Q (set d (.a (.d (.s (.int .i64 (cntM M (x, y)))))) σ)) : WH Γ dsts (⟨d, .mget 1 [.int .i64 0] [.int .i8, .int .i8] false m k, g, l1, l2, l3, l4⟩ :: ops) Q σ := WH.q hw (quiet_mget hm ho hk) rfl K
theorem WR.mkm {e : Nat} (hw : wanted dsts σ.env g = some true) (hp : noPar σ [e] = true) (k : WR Γ dsts ops Q (set (some e) (.a (.mp e)) (put e (.map KC (encM [])) (kill [e] σ)))) : WR Γ dsts (⟨some e, .mkm [.int .i8, .int .i8], g, l1, l2, l3, l4⟩ :: ops) Q σ :=
  WR.mk (d := e) (ob := .map KC (encM [])) hw rfl rfl (by simp [makes, encM]) hp k
theorem WH.ment {m k : Opd} {o : Nat} {M : List (Cel × Int)} {x y : Int} (hw : wanted dsts (kill l1 (only l3 σ)).env g = some true) (hm : ev (kill l1 (only l3 σ)).env m = .a (.mp o)) (ho : (kill l1 (only l3 σ)).objs o = some (.map KC (encM M))) (hk : ev (kill l1 (only l3 σ)).env k = .a (.d (.agg [.int .i8 x, .int .i8 y]))) (hi : l2.contains o = true)
    (K : WH Γ dsts ops Q (set d (.tup [.dead, .d (.s (.int .i64 (idxM M (x, y) : Nat)))]) (put o (.map KC (encM (entM M (x, y)))) σ))) : WH Γ dsts (⟨d, .ment 1 [.int .i64 0] [.int .i8, .int .i8] m k, g, l1, l2, l3, l4⟩ :: ops) Q σ := by
  have h1 := (mfind_M (x := x) (y := y) M).2.2
  have h2 := mentry_M (x := x) (y := y) M
  have hd : ∀ call, delta Γ call d (kill l1 (only l3 σ)) (.ment 1 [.int .i64 0] [.int .i8, .int .i8] m k) = some { v := .tup [.dead, .d (.s (.int .i64 (idxM M (x, y) : Nat)))], puts := [(o, .map KC (encM (entM M (x, y))))] } := fun call => by
    simp [delta, hm, ho, hk, cellsA, hasKs, hasK, h1, h2]
  refine WH.cons ⟨0, stepH_dl hw (hd _) (by simp only [within, List.all_cons, List.all_nil, hi]; rfl) rfl⟩ ?_
  simp only [applyD, hideD, insertAll, List.map_cons, List.map_nil, killO, killV, deadA, kill_nil]
  exact K
theorem WH.mest {m s v : Opd} {o j : Nat} {n : Int} {M : List (Cel × Int)} (hw : wanted dsts (kill l1 (only l3 σ)).env g = some true) (hm : ev (kill l1 (only l3 σ)).env m = .a (.mp o)) (ho : (kill l1 (only l3 σ)).objs o = some (.map KC (encM M))) (hs : ev (kill l1 (only l3 σ)).env s = .a (.d (.s (.int .i64 (j : Nat))))) (hv : ev (kill l1 (only l3 σ)).env v = .a (.d (.s (.int .i64 n)))) (hj : j < M.length) (hi : l2.contains o = true)
    (K : WH Γ dsts ops Q (put o (.map KC (encM (stoM j n M))) σ)) : WH Γ dsts (⟨none, .mest 1 m s v, g, l1, l2, l3, l4⟩ :: ops) Q σ := by
  have h2 := mstore_M (j := j) (n := n) M
  have hd : ∀ call, delta Γ call none (kill l1 (only l3 σ)) (.mest 1 m s v) = some { v := .undef, puts := [(o, .map KC (encM (stoM j n M)))] } := fun call => by
    simp [delta, hm, ho, hs, hv, cellsA, encM_len, hj, h2]
  refine WH.cons ⟨0, stepH_dl hw (hd _) (by simp only [within, List.all_cons, List.all_nil, hi]; rfl) rfl⟩ ?_
  simp only [applyD, hideD, insertAll, List.map_cons, List.map_nil, killO, killV, deadA, kill_nil]
  exact K
end
end Go.DM
