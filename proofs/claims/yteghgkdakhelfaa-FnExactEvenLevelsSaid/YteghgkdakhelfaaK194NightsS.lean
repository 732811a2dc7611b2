/- Maps of cells with a number each: rules. -/
import Derived.Test.YteghgkdakhelfaaK194SortW
import Derived.Test.YteghgkdakhelfaaK194Night
import Derived.Test.YteghgkdakhelfaaK194Loop
set_option linter.unusedSimpArgs false
set_option linter.unusedVariables false
namespace Go.DM
open Go.IntWalk
abbrev KC : List SK := [.int .i8, .int .i8]
def encM (M : List (Cel × Int)) : List (List S × List S) := M.map fun p => ([.int .i8 p.1.1, .int .i8 p.1.2], [.int .i64 p.2])
def cntM : List (Cel × Int) → Cel → Int
  | [], _ => 0
  | p :: r, c => if p.1 = c then p.2 else cntM r c
def hasM : List (Cel × Int) → Cel → Bool
  | [], _ => false
  | p :: r, c => if p.1 = c then true else hasM r c
def idxM : List (Cel × Int) → Cel → Nat
  | [], _ => 0
  | p :: r, c => if p.1 = c then 0 else idxM r c + 1
def entM (M : List (Cel × Int)) (c : Cel) : List (Cel × Int) := if hasM M c then M else M ++ [(c, 0)]
def stoM (j : Nat) (n : Int) (M : List (Cel × Int)) : List (Cel × Int) := match M[j]? with | some p => M.set j (p.1, n) | none => M
def bumpM (M : List (Cel × Int)) (c : Cel) : List (Cel × Int) := stoM (idxM M c) (cntM M c + 1) (entM M c)
theorem eqKey (x y x' y' : Int) : eqSs [.int .i8 x, .int .i8 y] [.int .i8 x', .int .i8 y'] = decide ((x', y') = (x, y)) := by
  simp only [eqSs, eqS, Bool.and_true, Prod.mk.injEq]
  by_cases h1 : x = x'
  · by_cases h2 : y = y'
    · subst h1; subst h2; simp
    · simp [h1, h2, Ne.symm h2]
  · simp [h1, Ne.symm h1]
theorem mfind_M {x y : Int} : ∀ M : List (Cel × Int), (mfind [.int .i8 x, .int .i8 y] (encM M)).getD [.int .i64 0] = [.int .i64 (cntM M (x, y))] ∧ (mfind [.int .i8 x, .int .i8 y] (encM M)).isSome = hasM M (x, y) ∧ midx [.int .i8 x, .int .i8 y] (encM M) = idxM M (x, y)
  | [] => ⟨rfl, rfl, rfl⟩
  | ((x', y'), n) :: r => by
    obtain ⟨h1, h2, h3⟩ := mfind_M (x := x) (y := y) r
    simp only [encM, List.map_cons, mfind, midx, eqKey] at h1 h2 h3 ⊢
    by_cases h : (x', y') = (x, y)
    · simp only [h, decide_true, if_true, cntM, hasM, idxM]; simp
    · simp only [h, decide_false, Bool.false_eq_true, if_false, cntM, hasM, idxM]
      exact ⟨h1, h2, by rw [h3]⟩
theorem mentry_M {x y : Int} (M : List (Cel × Int)) : mentry [.int .i8 x, .int .i8 y] [.int .i64 0] (encM M) = encM (entM M (x, y)) := by
  unfold mentry entM
  rw [(mfind_M M).2.1]
  cases hasM M (x, y) with
  | true => rfl
  | false => simp [encM]
theorem mstore_M {j : Nat} {n : Int} (M : List (Cel × Int)) : mstore j [.int .i64 n] (encM M) = encM (stoM j n M) := by
  unfold mstore stoM encM
  rw [List.getElem?_map]
  cases h : M[j]? with
  | none => simp
  | some p => simp [List.map_set]
theorem encM_len (M : List (Cel × Int)) : (encM M).length = M.length := by simp [encM]
theorem idxM_le : ∀ (M : List (Cel × Int)) (c : Cel), (hasM M c = true → idxM M c < M.length ∧ ∃ n, M[idxM M c]? = some (c, n)) ∧ (hasM M c = false → idxM M c = M.length)
  | [], c => ⟨fun h => (by cases h), fun _ => rfl⟩
  | p :: r, c => by
    obtain ⟨h1, h2⟩ := idxM_le r c
    simp only [hasM, idxM]
    by_cases h : p.1 = c
    · simp only [h, if_true]
      exact ⟨fun _ => ⟨by simp, p.2, by simp [← h]⟩, fun h => (by cases h)⟩
    · simp only [h, if_false]
      exact ⟨fun hh => ⟨by have := (h1 hh).1; simp; omega, (h1 hh).2.imp fun n hn => by simpa using hn⟩, fun hh => by rw [h2 hh]; rfl⟩
theorem entM_at (M : List (Cel × Int)) (c : Cel) : idxM M c < (entM M c).length ∧ ∃ n, (entM M c)[idxM M c]? = some (c, n) := by
  obtain ⟨h1, h2⟩ := idxM_le M c
  unfold entM
  cases h : hasM M c with
  | true => exact h1 h
  | false =>
    rw [h2 h]
    exact ⟨by simp, 0, by simp⟩
theorem cntM_end (c c' : Cel) : ∀ M : List (Cel × Int), cntM (M ++ [(c, 0)]) c' = cntM M c'
  | [] => by simp only [List.nil_append, cntM]; split <;> rfl
  | p :: r => by
    simp only [List.cons_append, cntM]
    split
    · rfl
    · exact cntM_end c c' r
theorem cntM_entM (M : List (Cel × Int)) (c c' : Cel) : cntM (entM M c) c' = cntM M c' := by
  unfold entM
  split
  · rfl
  · exact cntM_end c c' M
theorem idxM_end (c : Cel) : ∀ M : List (Cel × Int), hasM M c = false → idxM (M ++ [(c, 0)]) c = idxM M c
  | [], _ => by simp [idxM]
  | p :: r, h => by
    simp only [hasM] at h
    split at h
    · cases h
    · rename_i hne
      simp only [List.cons_append, idxM, hne, if_false, idxM_end c r h]
theorem idxM_entM (M : List (Cel × Int)) (c : Cel) : idxM (entM M c) c = idxM M c := by
  unfold entM
  cases h : hasM M c with
  | true => simp
  | false => simpa using idxM_end c M h
theorem cntM_set {n : Int} {c c' : Cel} : ∀ {M : List (Cel × Int)}, idxM M c < M.length → cntM (M.set (idxM M c) (c, n)) c' = if c' = c then n else cntM M c'
  | [], h => by simp at h
  | p :: r, h => by
    by_cases hp : p.1 = c
    · simp only [idxM, hp, if_true, List.set_cons_zero, cntM]
      by_cases hc : c' = c
      · subst hc; simp
      · simp only [hc, if_false, Ne.symm hc]
    · simp only [idxM, hp, if_false, List.length_cons] at h ⊢
      have ih := cntM_set (n := n) (c := c) (c' := c') (M := r) (by omega)
      simp only [List.set_cons_succ, cntM, ih]
      by_cases hc : c' = c
      · subst hc; simp [hp]
      · simp [hc]
/-- A count more. -/
theorem cntM_bump (M : List (Cel × Int)) (c c' : Cel) : cntM (bumpM M c) c' = if c' = c then cntM M c + 1 else cntM M c' := by
  obtain ⟨h1, n, h2⟩ := entM_at M c
  unfold bumpM stoM
  rw [h2]
  have h3 := cntM_set (n := cntM M c + 1) (c := c) (c' := c') (M := entM M c) (by rw [idxM_entM]; exact h1)
  rw [idxM_entM, cntM_entM] at h3
  exact h3
theorem noPar_putm {σ : St} {o p : Nat} {ks : List SK} {es : List (List S × List S)} (h : noPar σ [o] = true) : noPar (put p (.map ks es) σ) [o] = true := by
  rw [noPar_one] at h ⊢
  intro cs' e
  simp only [put, upd] at e
  split at e
  · cases e
  · exact h _ e
section
variable {Γ : Nat → Option Fn} {dsts : Nat → Option Nat} {ops : List Oper} {Q : St → Prop} {σ : St} {d : Option Nat} {g : Option (Nat × Bool)} {l1 l2 l3 l4 : List Nat} {call : Calls}
theorem quiet_mget {m k : Opd} {o : Nat} {M : List (Cel × Int)} {x y : Int} (hm : ev σ.env m = .a (.mp o)) (ho : σ.objs o = some (.map KC (encM M))) (hk : ev σ.env k = .a (.d (.agg [.int .i8 x, .int .i8 y]))) :
    quiet σ (.mget 1 [.int .i64 0] [.int .i8, .int .i8] false m k) = some (.a (.d (.s (.int .i64 (cntM M (x, y)))))) := by
  have h := (mfind_M (x := x) (y := y) M).1
  simp [quiet, hm, mapOf, ho, hk, cellsA, hasKs, hasK, h, ofCells, sv]
theorem quiet_mgetd {m k : Opd} {M : List (Cel × Int)} {x y : Int} (hm : ev σ.env m = .a (.d (.map KC (encM M)))) (hk : ev σ.env k = .a (.d (.agg [.int .i8 x, .int .i8 y]))) :
    quiet σ (.mget 1 [.int .i64 0] [.int .i8, .int .i8] false m k) = some (.a (.d (.s (.int .i64 (cntM M (x, y)))))) := by
  have h := (mfind_M (x := x) (y := y) M).1
  simp [quiet, hm, mapOf, hk, cellsA, hasKs, hasK, h, ofCells, sv]
theorem WR.mgetd {m k : Opd} {M : List (Cel × Int)} {x y : Int} (hw : wanted dsts σ.env g = some true) (hm : ev σ.env m = .a (.d (.map KC (encM M)))) (hk : ev σ.env k = .a (.d (.agg [.int .i8 x, .int .i8 y])))
    (K : WR Γ dsts ops Q (set d (.a (.d (.s (.int .i64 (cntM M (x, y)))))) σ)) : WR Γ dsts (⟨d, .mget 1 [.int .i64 0] [.int .i8, .int .i8] false m k, g, l1, l2, l3, l4⟩ :: ops) Q σ := WR.q hw (quiet_mgetd hm hk) K
theorem WH.mgetd {m k : Opd} {M : List (Cel × Int)} {x y : Int} (hw : wanted dsts (kill l1 (only l3 σ)).env g = some true) (hm : ev (kill l1 (only l3 σ)).env m = .a (.d (.map KC (encM M)))) (hk : ev (kill l1 (only l3 σ)).env k = .a (.d (.agg [.int .i8 x, .int .i8 y])))
    (K : WH Γ dsts ops Q (set d (.a (.d (.s (.int .i64 (cntM M (x, y)))))) σ)) : WH Γ dsts (⟨d, .mget 1 [.int .i64 0] [.int .i8, .int .i8] false m k, g, l1, l2, l3, l4⟩ :: ops) Q σ := WH.q hw (quiet_mgetd hm hk) rfl K
theorem WH.mget {m k : Opd} {o : Nat} {M : List (Cel × Int)} {x y : Int} (hw : wanted dsts (kill l1 (only l3 σ)).env g = some true) (hm : ev (kill l1 (only l3 σ)).env m = .a (.mp o)) (ho : (kill l1 (only l3 σ)).objs o = some (.map KC (encM M))) (hk : ev (kill l1 (only l3 σ)).env k = .a (.d (.agg [.int .i8 x, .int .i8 y])))
    (K : WH Γ dsts ops Q (set d (.a (.d (.s (.int .i64 (cntM M (x, y)))))) σ)) : WH Γ dsts (⟨d, .mget 1 [.int .i64 0] [.int .i8, .int .i8] false m k, g, l1, l2, l3, l4⟩ :: ops) Q σ := WH.q hw (quiet_mget hm ho hk) rfl K
theorem WR.mkm {e : Nat} (hw : wanted dsts σ.env g = some true) (hp : noPar σ [e] = true) (k : WR Γ dsts ops Q (set (some e) (.a (.mp e)) (put e (.map KC (encM [])) (kill [e] σ)))) : WR Γ dsts (⟨some e, .mkm [.int .i8, .int .i8], g, l1, l2, l3, l4⟩ :: ops) Q σ :=
  WR.mk (d := e) (ob := .map KC (encM [])) hw rfl rfl (by simp [makes, encM]) hp k
theorem WH.ment {m k : Opd} {o : Nat} {M : List (Cel × Int)} {x y : Int} (hw : wanted dsts (kill l1 (only l3 σ)).env g = some true) (hm : ev (kill l1 (only l3 σ)).env m = .a (.mp o)) (ho : (kill l1 (only l3 σ)).objs o = some (.map KC (encM M))) (hk : ev (kill l1 (only l3 σ)).env k = .a (.d (.agg [.int .i8 x, .int .i8 y]))) (hi : l2.contains o = true)
    (K : WH Γ dsts ops Q (set d (.tup [.dead, .d (.s (.int .i64 (idxM M (x, y) : Nat)))]) (put o (.map KC (encM (entM M (x, y)))) σ))) : WH Γ dsts (⟨d, .ment 1 [.int .i64 0] [.int .i8, .int .i8] m k, g, l1, l2, l3, l4⟩ :: ops) Q σ := by
  have h1 := (mfind_M (x := x) (y := y) M).2.2
  have h2 := mentry_M (x := x) (y := y) M
  have hd : ∀ call, delta Γ call d (kill l1 (only l3 σ)) (.ment 1 [.int .i64 0] [.int .i8, .int .i8] m k) = some { v := .tup [.dead, .d (.s (.int .i64 (idxM M (x, y) : Nat)))], puts := [(o, .map KC (encM (entM M (x, y))))] } := fun call => by
    simp [delta, hm, ho, hk, cellsA, hasKs, hasK, h1, h2]
  refine WH.cons ⟨0, stepH_dl hw (hd _) (by simp only [within, List.all_cons, List.all_nil, hi]; rfl) rfl⟩ ?_
  simp only [applyD, hideD, insertAll, List.map_cons, List.map_nil, killO, killV, deadA, kill_nil]
  exact K
theorem WH.mest {m s v : Opd} {o j : Nat} {n : Int} {M : List (Cel × Int)} (hw : wanted dsts (kill l1 (only l3 σ)).env g = some true) (hm : ev (kill l1 (only l3 σ)).env m = .a (.mp o)) (ho : (kill l1 (only l3 σ)).objs o = some (.map KC (encM M))) (hs : ev (kill l1 (only l3 σ)).env s = .a (.d (.s (.int .i64 (j : Nat))))) (hv : ev (kill l1 (only l3 σ)).env v = .a (.d (.s (.int .i64 n)))) (hj : j < M.length) (hi : l2.contains o = true)
    (K : WH Γ dsts ops Q (put o (.map KC (encM (stoM j n M))) σ)) : WH Γ dsts (⟨none, .mest 1 m s v, g, l1, l2, l3, l4⟩ :: ops) Q σ := by
  have h2 := mstore_M (j := j) (n := n) M
  have hd : ∀ call, delta Γ call none (kill l1 (only l3 σ)) (.mest 1 m s v) = some { v := .undef, puts := [(o, .map KC (encM (stoM j n M)))] } := fun call => by
    simp [delta, hm, ho, hs, hv, cellsA, encM_len, hj, h2]
  refine WH.cons ⟨0, stepH_dl hw (hd _) (by simp only [within, List.all_cons, List.all_nil, hi]; rfl) rfl⟩ ?_
  simp only [applyD, hideD, insertAll, List.map_cons, List.map_nil, killO, killV, deadA, kill_nil]
  exact K
end
end Go.DM

/- slices.Index over cells. -/
set_option linter.unusedSimpArgs false
set_option linter.unusedVariables false
namespace Go.DM
open Go.IntWalk

end Go.DM

/- Some nights of a mole: the program's side. -/
set_option linter.unusedSimpArgs false
set_option linter.unusedVariables false
namespace Go.DM
open Go.IntWalk
variable {w h : Int} {g : Nat → Int} {cs : List S} {q : Nat → Int} {qs : List S}

/-- Levels, and where the mole is and was. -/
structure Mole where
  q : Nat → Int
  qs : List S
  a : Cel
  b : Cel
def nextQ (q : Nat → Int) (t : Cel) : Nat → Int := if lv q t < 9 then levSet q (10 * t.2.toNat + t.1.toNat) (lv q t + 1) else q
def Mole.next (w h : Int) (g : Nat → Int) (m : Mole) : Mole := ⟨nextQ m.q (goes w h g m.q m.a m.b), nightLev m.q m.qs (goes w h g m.q m.a m.b), goes w h g m.q m.a m.b, m.a⟩
def Mole.after (w h : Int) (g : Nat → Int) (m : Mole) : Nat → Mole
  | 0 => m
  | n + 1 => (m.after w h g n).next w h g
def Mole.path (w h : Int) (g : Nat → Int) (m : Mole) : Nat → List Cel
  | 0 => [m.a]
  | n + 1 => m.path w h g n ++ [(m.after w h g (n + 1)).a]
theorem Mole.path_length (m : Mole) : ∀ n, (m.path w h g n).length = n + 1
  | 0 => rfl
  | n + 1 => by simp [Mole.path, Mole.path_length m n]
structure Mole.Ok (m : Mole) : Prop where
  v : IsLev m.q m.qs
  a : 0 ≤ m.a.1 ∧ m.a.1 < 10 ∧ 0 ≤ m.a.2 ∧ m.a.2 < 10
theorem lowest_mem (q : Nat → Int) (a : Cel) : ∀ l : List Cel, lowest q a l = a ∨ lowest q a l ∈ l
  | [] => .inl rfl
  | c :: r => by
    refine .inr ?_
    have key : ∀ (r : List Cel) (t : Cel), r.foldl (fun t c => if lv q c < lv q t then c else t) t = t ∨ r.foldl (fun t c => if lv q c < lv q t then c else t) t ∈ r := by
      intro r
      induction r with
      | nil => intro t; exact .inl rfl
      | cons d r ih =>
        intro t
        simp only [List.foldl_cons]
        rcases ih (if lv q d < lv q t then d else t) with h | h
        · rw [h]; split
          · exact .inr (List.mem_cons_self ..)
          · exact .inl rfl
        · exact .inr (List.mem_cons_of_mem _ h)
    rcases key r c with h | h
    · simp only [lowest, h]; exact List.mem_cons_self ..
    · simp only [lowest]; exact List.mem_cons_of_mem _ h
theorem goes_in (hs : w ≤ 10 ∧ h ≤ 10) (q : Nat → Int) {a b : Cel} (ha : 0 ≤ a.1 ∧ a.1 < 10 ∧ 0 ≤ a.2 ∧ a.2 < 10) : 0 ≤ (goes w h g q a b).1 ∧ (goes w h g q a b).1 < 10 ∧ 0 ≤ (goes w h g q a b).2 ∧ (goes w h g q a b).2 < 10 := by
  unfold goes
  rcases lowest_mem q a (if 1 < (kept (fun c => ¬ Is w h g 0 c.1 c.2) (Near a.1 a.2)).length then kept (fun c => c.1 = b.1 ∧ c.2 = b.2) (kept (fun c => ¬ Is w h g 0 c.1 c.2) (Near a.1 a.2)) else kept (fun c => ¬ Is w h g 0 c.1 c.2) (Near a.1 a.2)) with e | e
  · simp only [e]; exact ha
  · exact near_in hs e
theorem Mole.Ok.next (hs : w ≤ 10 ∧ h ≤ 10) {m : Mole} (k : m.Ok) : (m.next w h g).Ok := by
  have hin := goes_in (g := g) hs m.q (b := m.b) k.a
  refine ⟨?_, hin⟩
  simp only [Mole.next, nextQ, nightLev]
  generalize goes w h g m.q m.a m.b = t at hin
  have hk : 10 * t.2.toNat + t.1.toNat < 100 := by omega
  have := k.v.cb _ hk
  split
  · rename_i h9; exact k.v.set hk (by simp only [lv] at h9 ⊢; omega)
  · exact k.v
theorem Mole.Ok.after (hs : w ≤ 10 ∧ h ≤ 10) {m : Mole} (k : m.Ok) : ∀ n, (m.after w h g n).Ok
  | 0 => k
  | n + 1 => (k.after hs n).next hs

section
variable {Γ : Nat → Option Fn} {dsts : Nat → Option Nat} {ops : List Oper} {Q : St → Prop} {σ : St} {gd : Option (Nat × Bool)} {l1 l2 l3 l4 : List Nat}
/-- A call that answers twice several cells. -/
theorem WR.ca2 {f e : Nat} {xs : List Opd} {fn : Fn} {as : List Arg} {b b' : List S} (hw : wanted dsts σ.env gd = some true) (hΓ : Γ f = some fn)
    (hn : mutIds fn.muts (xs.map (ev σ.env)) = []) (ha : args σ [] fn.muts (xs.map (ev σ.env)) = some as) (hg : Gives Γ f as ⟨[.agg b, .agg b'], []⟩) (hb : backs σ fn.muts (xs.map (ev σ.env)) [] = some [])
    (k : WR Γ dsts ops Q (set (some e) (.tup [.d (.agg b), .d (.agg b')]) σ)) : WR Γ dsts (⟨some e, .call f xs, gd, l1, l2, l3, l4⟩ :: ops) Q σ := by
  refine WR.call (d := e) (v := .tup [.d (.agg b), .d (.agg b')]) (ps := []) (ns := []) hw rfl rfl hΓ (by rw [hn]; rfl) (by rw [hn]; exact ha) hg hb rfl rfl rfl ?_
  simp only [List.append_nil, List.map_nil, insertAll, kill_nil]
  exact k
end
theorem finish_cs {fn : Fn} {σ : St} {as : List Arg} {t n p t' p' : Nat} {b : Bool} {cs : List S} {l : List Cel} (hr : fn.res = [.cell t n true, .tmp t']) (he : σ.env t = .a (.ptr p 0)) (ho : σ.objs p = some (.flat b cs)) (hl : cs.length = n)
    (he' : σ.env t' = .a (.sl p' 0 l.length 2)) (ho' : σ.objs p' = some (.flat false (encC l))) (hm : outsOf σ 0 as = some []) : finish fn as σ = some ⟨[.agg cs, .own l.length 2 (encC l)], []⟩ := by
  have h1 : retOf as σ (.a (.sl p' 0 l.length 2)) = some (.own l.length 2 (encC l), some p') := by
    simp only [retOf, ho']
    rw [if_pos (by rw [encC_length]; omega), encC_take l _ rfl]
  simp only [finish, hr, all?, resV, he, he', load, ho, loadC_all hl, Option.bind_some, Option.map_some, h1]
  simp [retOf, nodup, hm]

end Go.DM

/- The cells beside a cell, of the reference. -/
set_option linter.unusedSimpArgs false
set_option linter.unusedVariables false
namespace Go.DM
open Go.IntWalk
variable {w h : Int} {g : Nat → Int} {cs : List S} {q : Nat → Int} {qs : List S}

def inside (w h : Int) (l : List Cel) : List Cel := l.filter fun c => decide (Has w h c.1 c.2)
theorem filter_snoc {α : Type} {p : α → Bool} {l : List α} {i : Nat} {c : α} (h : l[i]? = some c) : (l.take (i + 1)).filter p = (l.take i).filter p ++ (if p c then [c] else []) := by
  rw [List.take_add_one, h, List.filter_append]
  congr 1
  simp only [Option.toList_some, List.filter_cons, List.filter_nil]
theorem Near_b {x y : Int} {c : Cel} (h : c ∈ Near x y) : x - 1 ≤ c.1 ∧ c.1 ≤ x + 1 ∧ y - 1 ≤ c.2 ∧ c.2 ≤ y + 1 := by
  simp only [Near, List.mem_cons, List.not_mem_nil, or_false] at h
  rcases h with rfl | rfl | rfl | rfl <;> simp <;> omega
theorem inside_step {w h : Int} {l : List Cel} {i : Nat} (hi : i < l.length) : inside w h (l.take (i + 1)) = inside w h (l.take i) ++ (if Has w h (gC l i).1 (gC l i).2 then [gC l i] else []) := by
  unfold inside; rw [filter_snoc (gC_get hi)]; congr 1; simp only [decide_eq_true_eq]
theorem inside_len {w h : Int} {l : List Cel} : (inside w h l).length ≤ l.length := List.length_filter_le ..
end Go.DM

/- A mole's night: the reference's side gives the same. -/
set_option linter.unusedSimpArgs false
set_option linter.unusedVariables false
set_option maxHeartbeats 4000000
namespace Go.DM
open Go.IntWalk
variable {w h : Int} {g : Nat → Int} {cs : List S} {q : Nat → Int} {qs : List S}

def roundP (w h : Int) (g : Nat → Int) (b : Cel) (r : Nat) (c : Cel) : Prop := Is w h g 0 c.1 c.2 ∧ ¬ (r = 0 ∧ c.1 = b.1 ∧ c.2 = b.2)
instance (w h : Int) (g : Nat → Int) (b : Cel) (r : Nat) : DecidablePred (roundP w h g b r) := fun c => inferInstanceAs (Decidable (_ ∧ _))
def seen (w h : Int) (g q : Nat → Int) (a b : Cel) (r i : Nat) : List Cel := ((inside w h (Near a.1 a.2)).take i).filter fun c => decide (roundP w h g b r c)
theorem lowest_snoc (q : Nat → Int) (a c : Cel) (l : List Cel) : lowest q a (l ++ [c]) = if l = [] ∨ lv q c < lv q (lowest q a l) then c else lowest q a l := by
  cases l with
  | nil => simp [lowest]
  | cons d r => simp [lowest, List.foldl_append]
theorem near_ne {a c : Cel} (h : c ∈ Near a.1 a.2) : c ≠ a := by
  intro e; subst e
  have : ∀ x y : Int, (x, y) ∉ Near x y := by intro x y; simp [Near]; omega
  exact this _ _ h
theorem low_a {a : Cel} {l : List Cel} (hl : ∀ c ∈ l, c ≠ a) : lowest q a l = a ↔ l = [] := by
  constructor
  · intro h
    rcases lowest_mem q a l with h2 | h2
    · cases l with
      | nil => rfl
      | cons d r =>
        exfalso
        have : lowest q a (d :: r) ∈ d :: r := by
          rcases lowest_mem q d (d :: r) with h3 | h3
          · have e : lowest q d (d :: r) = lowest q a (d :: r) := rfl
            rw [← e, h3]; exact List.mem_cons_self ..
          · exact h3
        exact hl _ this h
    · exact absurd h (hl _ h2)
  · rintro rfl; rfl
theorem seen_sub {a b : Cel} {r i : Nat} {c : Cel} (hc : c ∈ seen w h g q a b r i) : c ∈ Near a.1 a.2 ∧ Is w h g 0 c.1 c.2 := by
  unfold seen at hc
  rw [List.mem_filter] at hc
  have h2 := List.mem_of_mem_take hc.1
  unfold inside at h2
  rw [List.mem_filter] at h2
  refine ⟨h2.1, ?_⟩
  have := hc.2
  simp only [decide_eq_true_eq] at this
  exact this.1
theorem seen_step {a b : Cel} {r i : Nat} (hi : i < (inside w h (Near a.1 a.2)).length) : seen w h g q a b r (i + 1) = seen w h g q a b r i ++ (if roundP w h g b r (gC (inside w h (Near a.1 a.2)) i) then [gC (inside w h (Near a.1 a.2)) i] else []) := by
  unfold seen; rw [filter_snoc (gC_get hi)]; congr 1; simp only [decide_eq_true_eq]
theorem seen_all {a b : Cel} {r : Nat} : seen w h g q a b r (inside w h (Near a.1 a.2)).length = (kept (fun c => ¬ Is w h g 0 c.1 c.2) (Near a.1 a.2)).filter fun c => decide (¬ (r = 0 ∧ c.1 = b.1 ∧ c.2 = b.2)) := by
  unfold seen inside kept
  rw [List.take_length, List.filter_filter, List.filter_filter]
  apply List.filter_congr
  intro c _
  by_cases h1 : Is w h g 0 c.1 c.2
  · have h2 : Has w h c.1 c.2 := h1.1
    simp [roundP, h1, h2]
  · simp [roundP, h1]
theorem seen_no {a b : Cel} {r i : Nat} (hi : i < (inside w h (Near a.1 a.2)).length) (hp : ¬ roundP w h g b r (gC (inside w h (Near a.1 a.2)) i)) : lowest q a (seen w h g q a b r (i + 1)) = lowest q a (seen w h g q a b r i) := by
  rw [seen_step hi, if_neg hp, List.append_nil]
theorem seen_yes {a b : Cel} {r i : Nat} (hi : i < (inside w h (Near a.1 a.2)).length) (hp : roundP w h g b r (gC (inside w h (Near a.1 a.2)) i)) : lowest q a (seen w h g q a b r (i + 1)) =
    if lowest q a (seen w h g q a b r i) = a ∨ lv q (gC (inside w h (Near a.1 a.2)) i) < lv q (lowest q a (seen w h g q a b r i)) then gC (inside w h (Near a.1 a.2)) i else lowest q a (seen w h g q a b r i) := by
  rw [seen_step hi, if_pos hp, lowest_snoc]
  have := low_a (q := q) (a := a) (l := seen w h g q a b r i) fun c hc => near_ne (seen_sub hc).1
  simp only [this]
def roundR (w h : Int) (g q : Nat → Int) (a b : Cel) (r : Nat) : Cel := lowest q a (seen w h g q a b r (inside w h (Near a.1 a.2)).length)
theorem goes_rounds (a b : Cel) : goes w h g q a b = if roundR w h g q a b 0 = a then roundR w h g q a b 1 else roundR w h g q a b 0 := by
  unfold roundR
  rw [seen_all, seen_all]
  have hn : (Near a.1 a.2).Nodup := by
    simp [Near]; omega
  have hN : (kept (fun c => ¬ Is w h g 0 c.1 c.2) (Near a.1 a.2)).Nodup := hn.filter _
  have hne : ∀ c ∈ kept (fun c => ¬ Is w h g 0 c.1 c.2) (Near a.1 a.2), c ≠ a := fun c hc => near_ne (kept_mem hc).1
  unfold goes
  dsimp only
  generalize kept (fun c => ¬ Is w h g 0 c.1 c.2) (Near a.1 a.2) = N at hN hne ⊢
  have e1 : (N.filter fun c => decide (¬ (1 = 0 ∧ c.1 = b.1 ∧ c.2 = b.2))) = N := by simp
  have e0 : (N.filter fun c => decide (¬ (0 = 0 ∧ c.1 = b.1 ∧ c.2 = b.2))) = kept (fun c => c.1 = b.1 ∧ c.2 = b.2) N := by simp [kept]
  rw [e1, show (N.filter fun c => decide (¬ (0 = 0 ∧ c.1 = b.1 ∧ c.2 = b.2))) = kept (fun c => c.1 = b.1 ∧ c.2 = b.2) N from e0]
  have hk : ∀ c ∈ kept (fun c => c.1 = b.1 ∧ c.2 = b.2) N, c ≠ a := fun c hc => hne c (kept_mem hc).1
  have hk := low_a (q := q) hk
  simp only [hk]
  by_cases h1 : 1 < N.length
  · rw [if_pos h1, if_neg]
    intro hnil
    have hall : ∀ c ∈ N, c = b := by
      intro c hc
      apply Classical.byContradiction
      intro hcb
      have : c ∈ kept (fun c => c.1 = b.1 ∧ c.2 = b.2) N := by
        unfold kept
        rw [List.mem_filter]
        refine ⟨hc, ?_⟩
        simp only [decide_eq_true_eq]
        intro hh; exact hcb (Prod.ext hh.1 hh.2)
      rw [hnil] at this; cases this
    match N, hN, hall, h1 with
    | x :: y :: r, hN, hall, _ =>
      have hx := hall x (by simp)
      have hy := hall y (by simp)
      simp [hx, hy] at hN
  · rw [if_neg h1]
    match N, h1 with
    | [], _ => rfl
    | [c], _ =>
      by_cases hc : c.1 = b.1 ∧ c.2 = b.2
      · have : kept (fun c => c.1 = b.1 ∧ c.2 = b.2) [c] = [] := by simp [kept, hc]
        rw [this, if_pos rfl]
      · have : kept (fun c => c.1 = b.1 ∧ c.2 = b.2) [c] = [c] := by simp [kept]; omega
        rw [this, if_neg (by simp)]
    | x :: y :: r, h1 => simp at h1

theorem nightLev_length {t : Cel} : (nightLev q qs t).length = qs.length := by
  unfold nightLev; split
  · rw [List.length_set]
  · rfl
end Go.DM

/- NightOf: the program's side. -/
set_option linter.unusedSimpArgs false
set_option linter.unusedVariables false
namespace Go.DM
open Go.IntWalk
variable {w h : Int} {g : Nat → Int} {cs : List S} {q : Nat → Int} {qs : List S}

section
variable {Γ : Nat → Option Fn} {dsts : Nat → Option Nat} {ops : List Oper} {Q : St → Prop} {σ : St} {d : Option Nat} {gd : Option (Nat × Bool)} {l1 l2 l3 l4 : List Nat}
theorem WH.s2 {es p off n l h : Nat} {a : Opd} {lo hi : Option Opd} (hw : wanted dsts (kill l1 (only l3 σ)).env gd = some true) (ha : ev (kill l1 (only l3 σ)).env a = .a (.sl p off n es)) (hl : bound (lo.map (ev (kill l1 (only l3 σ)).env)) 0 = some l) (hh : bound (hi.map (ev (kill l1 (only l3 σ)).env)) n = some h) (hb : l ≤ h ∧ h ≤ n)
    (hv : killV l1 (.a (.sl p (off + l * es) (h - l) es)) = .a (.sl p (off + l * es) (h - l) es)) (K : WH Γ dsts ops Q (set d (.a (.sl p (off + l * es) (h - l) es)) σ)) : WH Γ dsts (⟨d, .slc (.sl es) a lo hi, gd, l1, l2, l3, l4⟩ :: ops) Q σ :=
  WH.q hw (by simp only [veil, quiet, ha, slc, hl, hh, Option.bind_some]; rw [if_pos ⟨hb.1, hb.2, trivial⟩]) hv K
end
/-- A slice behind its first cell, and a cell, handed to a call. -/
theorem args_tail {σ : St} {p n : Nat} {l : List Cel} {x : D} (hn : n + 1 = l.length) (h : σ.objs p = some (.flat false (encC l))) : args σ [] [] [.a (.sl p (0 + 1 * 2) n 2), .a (.d x)] = some [asl (l.drop 1), .d x] := by
  have hl := encC_length l
  have e : ((encC l).drop (0 + 1 * 2)).take (n * 2) = encC (l.drop 1) := by
    rw [show 0 + 1 * 2 = 1 * 2 from rfl, encC_dr, List.take_of_length_le]
    rw [encC_length, List.length_drop]; omega
  have h1 : toDV (fun o => if ([] : List Nat).contains o then none else σ.objs o) depth (.a (.sl p (0 + 1 * 2) n 2)) = some (.sl (l.drop 1).length 2 (encC (l.drop 1))) := by
    show toDA _ _ _ = _
    simp only [toDA, List.contains_nil, Bool.false_eq_true, if_false, h]
    rw [if_pos (by omega), e, show n = (l.drop 1).length by rw [List.length_drop]; omega]
  simp only [args]
  rw [h1]
  rfl

theorem belowCode_congr {a b c a' b' c' : Prop} {d1 : Decidable a} {d2 : Decidable b} {d3 : Decidable c} {e1 : Decidable a'} {e2 : Decidable b'} {e3 : Decidable c'} (h1 : a ↔ a') (h2 : b ↔ b') (h3 : c ↔ c') : belowCode a b c = belowCode a' b' c' := by
  unfold belowCode
  by_cases k1 : a <;> by_cases k2 : b <;> by_cases k3 : c <;> simp [k1, k2, k3, ← h1, ← h2, ← h3]
def nightRes (code i : Int) : Res := if code = 0 then (if i < 0 then ⟨[.s (.int .i64 0), .s (.int .i64 6)], []⟩ else ⟨[.s (.int .i64 (i + 1)), .s (.int .i64 0)], []⟩) else ⟨[.s (.int .i64 0), .s (.int .i64 code)], []⟩
def nightCode (w h : Int) (g q : Nat → Int) (a b : Cel) : Int := belowCode (LevOk w h g q) (Has w h a.1 a.2 ∧ Has w h b.1 b.2) (Is w h g 0 a.1 a.2 ∧ Is w h g 0 b.1 b.2)
def nightIdx (w h : Int) (g q : Nat → Int) (qs : List S) (a b : Cel) : Int := idxOf (fun c => b.1 = c.1 ∧ b.2 = c.2) (((Mole.mk q qs a a).path w h g 60).drop 1) 0

end Go.DM

/- Some nights, the night of a trap: the reference's side. -/
set_option linter.unusedSimpArgs false
set_option linter.unusedVariables false
set_option maxHeartbeats 4000000
namespace Go.DM
open Go.IntWalk
variable {w h : Int} {g : Nat → Int} {cs : List S} {q : Nat → Int} {qs : List S}

def molesCode (w h : Int) (g q : Nat → Int) (a : Cel) (n : Int) : Int := belowCode (LevOk w h g q) ((0 ≤ n ∧ n ≤ 60) ∧ Has w h a.1 a.2) (Is w h g 0 a.1 a.2)
def molesRes (w h : Int) (g q : Nat → Int) (qs : List S) (a : Cel) (n : Int) : Res :=
  if molesCode w h g q a n = 0 then ⟨[.agg ((Mole.mk q qs a a).after w h g n.toNat).qs, .own ((Mole.mk q qs a a).path w h g n.toNat).length 2 (encC ((Mole.mk q qs a a).path w h g n.toNat)), .s (.int .i64 0)], []⟩
  else ⟨[.agg (List.replicate 100 (.int .i8 0)), .own 0 2 [], .s (.int .i64 (molesCode w h g q a n))], []⟩

end Go.DM
