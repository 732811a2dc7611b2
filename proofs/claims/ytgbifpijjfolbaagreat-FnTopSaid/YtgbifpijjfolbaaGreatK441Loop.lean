/- Loops: what a round leaves alone stays by itself; rows of cells, of numbers, squares of numbers. -/
import Derived.Test.YtgbifpijjfolbaaGreatK441More
set_option linter.all false
namespace Go.DM
variable [Tok]
open Go.IntWalk
def has (l : List Nat) (t : Nat) : Bool := l.any (Nat.beq t)
def mix (L LO : List Nat) (σ0 σ : St) : St := ⟨fun t => bif has L t then σ0.env t else σ.env t, fun o => bif has LO o then σ0.objs o else σ.objs o⟩
def frE (σ0 σ : St) : List Nat → Prop
  | [] => True
  | t :: ts => σ.env t = σ0.env t ∧ frE σ0 σ ts
def frO (σ0 σ : St) : List Nat → Prop
  | [] => True
  | t :: ts => σ.objs t = σ0.objs t ∧ frO σ0 σ ts
def isE (σ : St) : List (Nat × V) → Prop
  | [] => True
  | p :: ps => σ.env p.1 = p.2 ∧ isE σ ps
def isO (σ : St) : List (Nat × Ob) → Prop
  | [] => True
  | p :: ps => σ.objs p.1 = some p.2 ∧ isO σ ps
def setL : List (Nat × V) → St → St
  | [], σ => σ
  | p :: ps, σ => set (some p.1) p.2 (setL ps σ)
def putL : List (Nat × Ob) → St → St
  | [], σ => σ
  | p :: ps, σ => put p.1 p.2 (putL ps σ)
def noP (σ : St) : List Nat → Prop
  | [] => True
  | o :: os => noPar σ [o] = true ∧ noP σ os
section
variable {L LO : List Nat} {σ0 σ : St}
theorem frE_has : ∀ {L : List Nat}, frE σ0 σ L → ∀ t, has L t = true → σ.env t = σ0.env t
  | [], _, t, h => by cases h
  | x :: xs, ⟨h1, h2⟩, t, h => by
    unfold has at h
    rw [List.any_cons, Bool.or_eq_true] at h
    rcases h with h | h
    · have := Nat.eq_of_beq_eq_true h; subst this; exact h1
    · exact frE_has h2 t h
theorem frO_has : ∀ {L : List Nat}, frO σ0 σ L → ∀ t, has L t = true → σ.objs t = σ0.objs t
  | [], _, t, h => by cases h
  | x :: xs, ⟨h1, h2⟩, t, h => by
    unfold has at h
    rw [List.any_cons, Bool.or_eq_true] at h
    rcases h with h | h
    · have := Nat.eq_of_beq_eq_true h; subst this; exact h1
    · exact frO_has h2 t h
theorem mix_self (h1 : frE σ0 σ L) (h2 : frO σ0 σ LO) : mix L LO σ0 σ = σ := by
  cases σ with
  | mk e o =>
    simp only [mix, St.mk.injEq]
    constructor
    · funext t
      cases h : has L t with
      | true => exact (frE_has h1 t h).symm
      | false => rfl
    · funext t
      cases h : has LO t with
      | true => exact (frO_has h2 t h).symm
      | false => rfl
theorem setL_self : ∀ {E : List (Nat × V)}, isE σ E → setL E σ = σ
  | [], _ => rfl
  | p :: ps, ⟨h1, h2⟩ => by rw [setL, setL_self h2]; exact set_self h1
theorem putL_self : ∀ {E : List (Nat × Ob)}, isO σ E → putL E σ = σ
  | [], _ => rfl
  | p :: ps, ⟨h1, h2⟩ => by rw [putL, putL_self h2]; exact put_self h1
theorem frE_refl : ∀ L : List Nat, frE σ0 σ0 L
  | [] => trivial
  | x :: xs => ⟨rfl, frE_refl xs⟩
theorem frO_refl : ∀ L : List Nat, frO σ0 σ0 L
  | [] => trivial
  | x :: xs => ⟨rfl, frO_refl xs⟩
end
def Head {X : Type} (L LO N : List Nat) (σ0 : St) (P : X → Prop) (E : X → List (Nat × V)) (O : X → List (Nat × Ob)) (x : X) (σ : St) : Prop :=
  P x ∧ isE σ (E x) ∧ isO σ (O x) ∧ frE σ0 σ L ∧ frO σ0 σ LO ∧ noP σ N
def Nxt {X : Type} (L LO N : List Nat) (σ0 : St) (μ : X → Nat) (P : X → Prop) (E : X → List (Nat × V)) (O : X → List (Nat × Ob)) (x : X) (σ : St) : Prop := ∃ y, μ y < μ x ∧ Head L LO N σ0 P E O y σ
theorem W.loopM {Γ : Nat → Option Fn} {c : Code} {Q : Ex → St → Prop} {σ0 : St} {X : Type} (L LO N : List Nat) (μ : X → Nat) (P : X → Prop) (E : X → List (Nat × V)) (O : X → List (Nat × Ob)) (x0 : X)
    (hP : P x0) (hE : isE σ0 (E x0)) (hO : isO σ0 (O x0)) (hN : noP σ0 N)
    (h : ∀ x σ, P x → noP σ N → W Γ c (andThen (Nxt L LO N σ0 μ P E O x) Q) (putL (O x) (setL (E x) (mix L LO σ0 σ)))) : W Γ (.loop c) Q σ0 := by
  refine W.loopI (fun n σ => ∃ x, n = μ x ∧ Head L LO N σ0 P E O x σ) ?_ (μ x0) σ0 ⟨x0, rfl, hP, hE, hO, frE_refl L, frO_refl LO, hN⟩
  rintro n σ ⟨x, rfl, h1, h2, h3, h4, h5, h6⟩
  have k := h x σ h1 h6
  rw [mix_self h4 h5, setL_self h2, putL_self h3] at k
  refine k.mono fun e σ' hq => ?_
  cases e with
  | normal => obtain ⟨y, hy, hh⟩ := hq; exact ⟨_, hy, y, rfl, hh⟩
  | exit id => exact hq
  | ret => exact hq
theorem W.nxt {X : Type} {L LO N : List Nat} {σ0 σ' : St} {μ : X → Nat} {P : X → Prop} {E : X → List (Nat × V)} {O : X → List (Nat × Ob)} {x : X} (y : X) (h0 : μ y < μ x) (hP : P y) (hE : isE σ' (E y)) (hO : isO σ' (O y)) (h4 : frE σ0 σ' L) (h5 : frO σ0 σ' LO) (h6 : noP σ' N) :
    Nxt L LO N σ0 μ P E O x σ' := ⟨y, h0, hP, hE, hO, h4, h5, h6⟩
section
variable {σ : St} {o p : Nat}
theorem noPar_one : noPar σ [o] = true ↔ ∀ cs, σ.objs o ≠ some (.flat true cs) := by
  simp only [noPar, List.all_cons, List.all_nil, Bool.and_true]
  constructor
  · intro h cs e; rw [e] at h; cases h
  · intro h
    split
    · rename_i cs e; exact absurd e (h cs)
    · rfl
theorem noPar_set {d : Option Nat} {v : V} (h : noPar σ [o] = true) : noPar (set d v σ) [o] = true := by
  rw [noPar_one] at h ⊢
  cases d <;> exact h
theorem noPar_put {cs : List S} (h : noPar σ [o] = true) : noPar (put p (.flat false cs) σ) [o] = true := by
  rw [noPar_one] at h ⊢
  intro cs' e
  simp only [put, upd] at e
  split at e
  · cases e
  · exact h _ e
theorem noPar_putv {v : V} (h : noPar σ [o] = true) : noPar (put p (.var v) σ) [o] = true := by
  rw [noPar_one] at h ⊢
  intro cs' e
  simp only [put, upd] at e
  split at e
  · cases e
  · exact h _ e
theorem noPar_puto {b : Bool} {cs : List S} (hn : Nat.beq o p = false) (h : noPar σ [o] = true) : noPar (put p (.flat b cs) σ) [o] = true := by
  rw [noPar_one] at h ⊢
  intro cs' e
  simp only [put, upd] at e
  split at e
  · rename_i e2; subst e2; rw [Nat.beq_refl] at hn; cases hn
  · exact h _ e
theorem noPar_kill {ids : List Nat} (h : noPar σ [o] = true) : noPar (kill ids σ) [o] = true := by
  rw [noPar_one] at h ⊢
  intro cs' e
  simp only [kill] at e
  split at e
  · cases e
  · cases hq : σ.objs o with
    | none => rw [hq] at e; cases e
    | some ob =>
      rw [hq] at e
      cases ob with
      | flat b cs => simp only [Option.map_some, killO, Option.some.injEq, Ob.flat.injEq] at e; exact h cs (by rw [hq, e.1])
      | var v => cases e
      | map ks es => cases e
      | row xs => cases e
theorem noPar_mix {L LO : List Nat} {σ0 : St} (hn : has LO o = false) (h : noPar σ [o] = true) : noPar (mix L LO σ0 σ) [o] = true := by
  rw [noPar_one] at h ⊢
  intro cs' e
  simp only [mix, hn, cond_false] at e
  exact h _ e
end
abbrev gC (l : List Cel) (k : Nat) : Cel := l.getD k (0, 0)
abbrev cv (c : Cel) : V := .a (.d (.agg [.int .i8 c.1, .int .i8 c.2]))
theorem gC_get {l : List Cel} {k : Nat} (h : k < l.length) : l[k]? = some (gC l k) := by
  simp [gC, List.getD_eq_getElem?_getD, h]
theorem gC_mem {l : List Cel} {k : Nat} (h : k < l.length) : gC l k ∈ l := List.mem_of_getElem? (gC_get h)
theorem ldC {l : List Cel} {k : Nat} (h : k < l.length) : loadC 2 true (encC l) (0 + k * 2) = some (.a (.d (.agg [.int .i8 (gC l k).1, .int .i8 (gC l k).2]))) := by
  rw [Nat.zero_add]; exact encC_load l k _ (gC_get h)
theorem ldCd {l : List Cel} {k : Nat} (h : k < l.length) : loadC 2 true (encC l) (k * 2) = some (.a (.d (.agg [.int .i8 (gC l k).1, .int .i8 (gC l k).2]))) := encC_load l k _ (gC_get h)
def encI (k : IntKind) : List Int → List S
  | [] => []
  | n :: r => .int k n :: encI k r
theorem encI_length (k : IntKind) : ∀ l, (encI k l).length = l.length
  | [] => rfl
  | n :: r => by simp only [encI, List.length_cons, encI_length k r]
theorem encI_append (k : IntKind) : ∀ a b, encI k (a ++ b) = encI k a ++ encI k b
  | [], b => rfl
  | n :: r, b => by simp only [List.cons_append, encI, encI_append k r b]
theorem encI_map (k : IntKind) : ∀ l, encI k l = l.map (.int k)
  | [] => rfl
  | n :: r => by simp only [encI, List.map_cons, encI_map k r]
abbrev gI (l : List Int) (k : Nat) : Int := l.getD k 0
theorem gI_get {l : List Int} {k : Nat} (h : k < l.length) : l[k]? = some (gI l k) := by
  simp [gI, List.getD_eq_getElem?_getD, h]
theorem ldId {ik : IntKind} {l : List Int} {k : Nat} (h : k < l.length) : loadC 1 false (encI ik l) (k * 1) = some (.a (.d (.s (.int ik (gI l k))))) :=
  loadC_one (by rw [Nat.mul_one, encI_map, List.getElem?_map, gI_get h]; rfl)
def grid (k : IntKind) (q : Nat → Int) : List S := (List.range 100).map fun i => .int k (q i)
def gridB (q : Nat → Bool) : List S := (List.range 100).map fun i => .bool (q i)
theorem grid_len {k : IntKind} {q : Nat → Int} : (grid k q).length = 100 := by simp [grid]
theorem gridB_len {q : Nat → Bool} : (gridB q).length = 100 := by simp [gridB]
theorem grid_get {k : IntKind} {q : Nat → Int} {i : Nat} (h : i < 100) : (grid k q)[i]? = some (.int k (q i)) := by simp [grid, h]
theorem ldG {k : IntKind} {q : Nat → Int} {x y : Int} (hb : 0 ≤ x ∧ x < 10 ∧ 0 ≤ y ∧ y < 10) : loadC 1 false (grid k q) (0 + y.toNat * 10 + x.toNat * 1) = some (.a (.d (.s (.int k (q (10 * y.toNat + x.toNat)))))) := by
  refine loadC_one ?_
  rw [show 0 + y.toNat * 10 + x.toNat * 1 = 10 * y.toNat + x.toNat by omega]
  exact grid_get (by omega)
def gset {α : Type} (q : Nat → α) (k : Nat) (n : α) : Nat → α := fun i => if i = k then n else q i
theorem grid_set {k : IntKind} {q : Nat → Int} {i : Nat} (n : Int) (h : i < 100) : (grid k q).set i (.int k n) = grid k (gset q i n) := by
  refine List.ext_getElem? fun j => ?_
  by_cases hj : j < 100
  · rw [grid_get hj]
    by_cases e : i = j
    · subst e; rw [List.getElem?_set_self (by rw [grid_len]; exact h)]; simp [gset]
    · rw [List.getElem?_set_ne e, grid_get hj]; simp only [gset]; rw [if_neg (fun h => e h.symm)]
  · rw [List.getElem?_eq_none (by rw [List.length_set, grid_len]; omega), List.getElem?_eq_none (by rw [grid_len]; omega)]
theorem storeAt {p : Bool} {cs : List S} {x : S} {k off : Nat} (hk : k < cs.length) (h : off = k) : storeO 1 (.a (.d (.s x))) off (.flat p cs) = some (.flat p (cs.set k x)) := by
  subst h
  simp only [storeO, cellsOf]
  rw [if_pos ⟨rfl, by omega⟩]
  congr 2
  rw [List.set_eq_take_append_cons_drop, if_pos hk]
  simp
theorem stG {p : Bool} {k : IntKind} {q : Nat → Int} {x y n : Int} (hb : 0 ≤ x ∧ x < 10 ∧ 0 ≤ y ∧ y < 10) : storeO 1 (.a (.d (.s (.int k n)))) (0 + y.toNat * 10 + x.toNat * 1) (.flat p (grid k q)) = some (.flat p (grid k (gset q (10 * y.toNat + x.toNat) n))) := by
  rw [storeAt (k := 10 * y.toNat + x.toNat) (by rw [grid_len]; omega) (by omega), grid_set n (by omega)]
theorem IsLev.grid {q : Nat → Int} {qs : List S} (v : IsLev q qs) : qs = DM.grid .i8 q := by
  refine List.ext_getElem? fun j => ?_
  by_cases hj : j < 100
  · rw [grid_get hj]; exact v.c j hj
  · rw [List.getElem?_eq_none (by rw [v.len]; omega), List.getElem?_eq_none (by rw [grid_len]; omega)]
section
variable {σ : St} {ids : List Nat} {objs : Nat → Option Ob}
theorem args_nil {ms : List Bool} : args σ ids ms [] = some [] := by cases ms <;> rfl
theorem args_d {v : V} {vs : List V} {x : D} {as : List Arg} (h : toDV (fun o => if ids.contains o then none else σ.objs o) depth v = some x) (hr : args σ ids [] vs = some as) : args σ ids [] (v :: vs) = some (.d x :: as) := by
  simp only [args, h, hr, Option.bind_some, Option.map_some]
theorem args_p {ms : List Bool} {v : V} {vs : List V} {o : Nat} {b : Bool} {cs : List S} {as : List Arg} (hv : v = .a (.ptr o 0)) (ho : σ.objs o = some (.flat b cs)) (hr : args σ ids ms vs = some as) : args σ ids (true :: ms) (v :: vs) = some (.mp cs :: as) := by
  subst hv
  simp only [args, if_true, writable, ho, hr, Option.bind_some, Option.map_some]
theorem toD_d {k : Nat} {v : V} {x : D} (hv : v = .a (.d x)) : toDV objs (k + 1) v = some x := by subst hv; rfl
theorem toD_ptr {k : Nat} {v : V} {o : Nat} {b : Bool} {cs : List S} (hv : v = .a (.ptr o 0)) (ho : objs o = some (.flat b cs)) : toDV objs (k + 1) v = some (.ref cs) := by
  subst hv; simp only [toDV, toDA, ho, List.drop_zero]
theorem toD_slC {k : Nat} {v : V} {o n : Nat} {b : Bool} {l : List Cel} (hv : v = .a (.sl o 0 n 2)) (ho : objs o = some (.flat b (encC l))) (hn : n = l.length) : toDV objs (k + 1) v = some (.sl l.length 2 (encC l)) := by
  subst hv hn; exact toDV_sl ho k
theorem toD_slI {k : Nat} {v : V} {o n : Nat} {b : Bool} {ik : IntKind} {l : List Int} (hv : v = .a (.sl o 0 n 1)) (ho : objs o = some (.flat b (encI ik l))) (hn : n = l.length) : toDV objs (k + 1) v = some (.sl l.length 1 (encI ik l)) := by
  subst hv hn
  have hl := encI_length ik l
  simp only [toDV, toDA, ho]
  rw [if_pos (by omega), List.drop_zero, List.take_of_length_le (by omega)]
theorem backs_nil {ms : List Bool} : backs σ ms [] [] = some [] := by cases ms <;> simp [backs]
theorem backs_no {vs : List V} : backs σ [] vs [] = some [] := by cases vs <;> simp [backs]
theorem backs_p {ms : List Bool} {v : V} {vs : List V} {o : Nat} {b : Bool} {old c : List S} {cs : List (List S)} {ps : List (Nat × Ob)} (hv : v = .a (.ptr o 0)) (ho : σ.objs o = some (.flat b old)) (hl : c.length = old.length) (hr : backs σ ms vs cs = some ps) : backs σ (true :: ms) (v :: vs) (c :: cs) = some ((o, .flat b c) :: ps) := by
  subst hv
  simp only [backs, ho, hr, Option.map_some]
  rw [if_pos hl]
end
section
variable {Γ : Nat → Option Fn} {dsts : Nat → Option Nat} {ops : List Oper} {Q : St → Prop} {σ : St} {d : Option Nat} {g : Option (Nat × Bool)} {l1 l2 l3 l4 : List Nat}
theorem WR.isn {es p off m : Nat} {a i : Opd} {k : IntKind} {n : Nat} (hw : wanted dsts σ.env g = some true) (ha : ev σ.env a = .a (.sl p off m es)) (hi : ev σ.env i = .a (.d (.s (.int k (n : Nat))))) (hb : n < m)
    (K : WR Γ dsts ops Q (set d (.a (.ptr p (off + n * es))) σ)) : WR Γ dsts (⟨d, .idxs es a i, g, l1, l2, l3, l4⟩ :: ops) Q σ :=
  WR.q hw (by simp only [quiet, ha, hi, idxs, asI, Option.bind_some]; rw [if_neg (by omega), if_pos ⟨by omega, trivial⟩]; rfl) K
theorem WR.idn {es m : Nat} {cs : List S} {a i : Opd} {k : IntKind} {n : Nat} (hw : wanted dsts σ.env g = some true) (ha : ev σ.env a = .a (.d (.sl m es cs))) (hi : ev σ.env i = .a (.d (.s (.int k (n : Nat))))) (hb : n < m) (hc : m * es ≤ cs.length)
    (K : WR Γ dsts ops Q (set d (.a (.dptr cs (n * es))) σ)) : WR Γ dsts (⟨d, .idxs es a i, g, l1, l2, l3, l4⟩ :: ops) Q σ :=
  WR.q hw (by simp only [quiet, ha, hi, idxs, asI, Option.bind_some]; rw [if_neg (by omega), if_pos ⟨by omega, trivial, hc⟩]; rfl) K
theorem WR.bC {a b : Opd} {x y : Int} (hw : wanted dsts σ.env g = some true) (ha : ev σ.env a = .a (.d (.s (.int .i8 x)))) (hb : ev σ.env b = .a (.d (.s (.int .i8 y)))) (k : WR Γ dsts ops Q (set d (.a (.d (.agg [.int .i8 x, .int .i8 y]))) σ)) : WR Γ dsts (⟨d, .build [.int .i8 0, .int .i8 0] [(0, 1, a), (1, 1, b)], g, l1, l2, l3, l4⟩ :: ops) Q σ :=
  WR.q hw (by simp [quiet, all?, ha, hb, cellsOf, fill, av]) k
theorem WH.isn {es p off m : Nat} {a i : Opd} {k : IntKind} {n : Nat} (hw : wanted dsts (kill l1 (only l3 σ)).env g = some true) (ha : ev (kill l1 (only l3 σ)).env a = .a (.sl p off m es)) (hi : ev (kill l1 (only l3 σ)).env i = .a (.d (.s (.int k (n : Nat))))) (hb : n < m)
    (hv : killV l1 (.a (.ptr p (off + n * es))) = (.a (.ptr p (off + n * es)))) (K : WH Γ dsts ops Q (set d (.a (.ptr p (off + n * es))) σ)) : WH Γ dsts (⟨d, .idxs es a i, g, l1, l2, l3, l4⟩ :: ops) Q σ :=
  WH.q hw (by simp only [veil, quiet, ha, hi, idxs, asI, Option.bind_some]; rw [if_neg (by omega), if_pos ⟨by omega, trivial⟩]; rfl) hv K
theorem WH.idn {es m : Nat} {cs : List S} {a i : Opd} {k : IntKind} {n : Nat} (hw : wanted dsts (kill l1 (only l3 σ)).env g = some true) (ha : ev (kill l1 (only l3 σ)).env a = .a (.d (.sl m es cs))) (hi : ev (kill l1 (only l3 σ)).env i = .a (.d (.s (.int k (n : Nat))))) (hb : n < m) (hc : m * es ≤ cs.length)
    (hv : killV l1 (.a (.dptr cs (n * es))) = (.a (.dptr cs (n * es)))) (K : WH Γ dsts ops Q (set d (.a (.dptr cs (n * es))) σ)) : WH Γ dsts (⟨d, .idxs es a i, g, l1, l2, l3, l4⟩ :: ops) Q σ :=
  WH.q hw (by simp only [veil, quiet, ha, hi, idxs, asI, Option.bind_some]; rw [if_neg (by omega), if_pos ⟨by omega, trivial, hc⟩]; rfl) hv K
theorem WH.bC {a b : Opd} {x y : Int} (hw : wanted dsts (kill l1 (only l3 σ)).env g = some true) (ha : ev (kill l1 (only l3 σ)).env a = .a (.d (.s (.int .i8 x)))) (hb : ev (kill l1 (only l3 σ)).env b = .a (.d (.s (.int .i8 y)))) (k : WH Γ dsts ops Q (set d (.a (.d (.agg [.int .i8 x, .int .i8 y]))) σ)) : WH Γ dsts (⟨d, .build [.int .i8 0, .int .i8 0] [(0, 1, a), (1, 1, b)], g, l1, l2, l3, l4⟩ :: ops) Q σ :=
  WH.q hw (by simp [veil, quiet, all?, ha, hb, cellsOf, fill, av]) rfl k
theorem apC_dl {σ : St} {d : Option Nat} {es p : Nat} {a b : Opd} {l : List Cel} {x y : Int} (ha : ev σ.env a = .a (.sl p 0 l.length 2)) (ho : σ.objs p = some (.flat false (encC l))) (hb : elems σ.objs 2 (ev σ.env b) = some (1, [.int .i8 x, .int .i8 y])) (h2 : l.length ≤ 100000) {Γ : Nat → Option Fn} {call : Calls} :
    delta Γ call d σ (.app 2 a b) = some ⟨.a (.sl p 0 (l ++ [(x, y)]).length 2), [p], [(p, .flat false (encC (l ++ [(x, y)])))]⟩ := by
  have hl := encC_length l
  simp only [delta, append, ha, hb, ho]
  rw [if_pos ⟨trivial, by omega, by simp only [big]; omega⟩, encC_take l _ rfl, encC_append, List.length_append]
  rfl
theorem apI_dl {σ : St} {d : Option Nat} {es p : Nat} {a b : Opd} {ik : IntKind} {l : List Int} {x : Int} (ha : ev σ.env a = .a (.sl p 0 l.length 1)) (ho : σ.objs p = some (.flat false (encI ik l))) (hb : elems σ.objs 1 (ev σ.env b) = some (1, [.int ik x])) (h2 : l.length ≤ 100000) {Γ : Nat → Option Fn} {call : Calls} :
    delta Γ call d σ (.app 1 a b) = some ⟨.a (.sl p 0 (l ++ [x]).length 1), [p], [(p, .flat false (encI ik (l ++ [x])))]⟩ := by
  have hl := encI_length ik l
  simp only [delta, append, ha, hb, ho]
  rw [if_pos ⟨trivial, by omega, by simp only [big]; omega⟩, encI_append, List.length_append, List.drop_zero, List.take_of_length_le (by omega)]
  rfl
theorem WR.apC {p : Nat} {a b : Opd} {l : List Cel} {x y : Int} (hw : wanted dsts σ.env g = some true) (ha : ev σ.env a = .a (.sl p 0 l.length 2)) (ho : σ.objs p = some (.flat false (encC l))) (hb : elems σ.objs 2 (ev σ.env b) = some (1, [.int .i8 x, .int .i8 y])) (h2 : l.length ≤ 100000)
    (k : WR Γ dsts ops Q (set d (.a (.sl p 0 (l ++ [(x, y)]).length 2)) (put p (.flat false (encC (l ++ [(x, y)]))) (kill [p] σ)))) : WR Γ dsts (⟨d, .app 2 a b, g, l1, l2, l3, l4⟩ :: ops) Q σ :=
  WR.cons ⟨0, step_dl hw (apC_dl (es := 2) ha ho hb h2) (by rw [noPar_one]; intro cs e; rw [ho] at e; cases e)⟩ k
theorem WR.apI {p : Nat} {a b : Opd} {ik : IntKind} {l : List Int} {x : Int} (hw : wanted dsts σ.env g = some true) (ha : ev σ.env a = .a (.sl p 0 l.length 1)) (ho : σ.objs p = some (.flat false (encI ik l))) (hb : elems σ.objs 1 (ev σ.env b) = some (1, [.int ik x])) (h2 : l.length ≤ 100000)
    (k : WR Γ dsts ops Q (set d (.a (.sl p 0 (l ++ [x]).length 1)) (put p (.flat false (encI ik (l ++ [x]))) (kill [p] σ)))) : WR Γ dsts (⟨d, .app 1 a b, g, l1, l2, l3, l4⟩ :: ops) Q σ :=
  WR.cons ⟨0, step_dl hw (apI_dl (es := 1) ha ho hb h2) (by rw [noPar_one]; intro cs e; rw [ho] at e; cases e)⟩ k
theorem stepH_dl {call : Calls} {o : Oper} {r : Dl} (hw : wanted dsts (veil o σ).env o.guard = some true) (hd : delta Γ call o.dst (veil o σ) o.op = some r) (hi : within o r = true) (hp : noPar σ r.kills = true) : stepH Γ call dsts o σ = some (applyD o.dst (hideD o.hid r) σ) := by
  simp [stepH, deltaG, hw, hd, hi, hp]
theorem WH.apC {p : Nat} {a b : Opd} {l : List Cel} {x y : Int} (hw : wanted dsts (kill l1 (only l3 σ)).env g = some true) (ha : ev (kill l1 (only l3 σ)).env a = .a (.sl p 0 l.length 2)) (ho : (kill l1 (only l3 σ)).objs p = some (.flat false (encC l))) (hb : elems (kill l1 (only l3 σ)).objs 2 (ev (kill l1 (only l3 σ)).env b) = some (1, [.int .i8 x, .int .i8 y])) (h2 : l.length ≤ 100000)
    (hi : l2.contains p = true) (hp : noPar σ [p] = true) (hh : l1.contains p = false)
    (k : WH Γ dsts ops Q (set d (.a (.sl p 0 (l ++ [(x, y)]).length 2)) (put p (.flat false (encC (l ++ [(x, y)]))) (kill [p] σ)))) : WH Γ dsts (⟨d, .app 2 a b, g, l1, l2, l3, l4⟩ :: ops) Q σ := by
  refine WH.cons ⟨0, stepH_dl hw (apC_dl (es := 2) ha ho hb h2) (by simp only [within, List.all_cons, List.all_nil, hi]; rfl) hp⟩ ?_
  simp only [applyD, hideD, insertAll, List.map_cons, List.map_nil, killO, killV, deadA, hh]
  exact k
theorem WH.apI {p : Nat} {a b : Opd} {ik : IntKind} {l : List Int} {x : Int} (hw : wanted dsts (kill l1 (only l3 σ)).env g = some true) (ha : ev (kill l1 (only l3 σ)).env a = .a (.sl p 0 l.length 1)) (ho : (kill l1 (only l3 σ)).objs p = some (.flat false (encI ik l))) (hb : elems (kill l1 (only l3 σ)).objs 1 (ev (kill l1 (only l3 σ)).env b) = some (1, [.int ik x])) (h2 : l.length ≤ 100000)
    (hi : l2.contains p = true) (hp : noPar σ [p] = true) (hh : l1.contains p = false)
    (k : WH Γ dsts ops Q (set d (.a (.sl p 0 (l ++ [x]).length 1)) (put p (.flat false (encI ik (l ++ [x]))) (kill [p] σ)))) : WH Γ dsts (⟨d, .app 1 a b, g, l1, l2, l3, l4⟩ :: ops) Q σ := by
  refine WH.cons ⟨0, stepH_dl hw (apI_dl (es := 1) ha ho hb h2) (by simp only [within, List.all_cons, List.all_nil, hi]; rfl) hp⟩ ?_
  simp only [applyD, hideD, insertAll, List.map_cons, List.map_nil, killO, killV, deadA, hh]
  exact k
theorem WR.bs0 {e : Nat} (hw : wanted dsts σ.env g = some true) (hp : noPar σ [e] = true) (k : WR Γ dsts ops Q (set (some e) (.a (.sl e 0 0 2)) (put e (.flat false (encC [])) (kill [e] σ)))) : WR Γ dsts (⟨some e, .bsl 2 0 [.int .i8 0, .int .i8 0] [], g, l1, l2, l3, l4⟩ :: ops) Q σ :=
  WR.mk (d := e) (ob := .flat false (encC [])) hw rfl rfl (by simp [makes, all?, cellsOf, fill, replicate, List.replicate, encC]) hp k
theorem WH.bs0 {e : Nat} (hw : wanted dsts (kill l1 (only l3 σ)).env g = some true) (hp : noPar σ [e] = true) (hi : l2.contains e = true) (hv : killV l1 (.a (.sl e 0 0 2)) = .a (.sl e 0 0 2)) (k : WH Γ dsts ops Q (set (some e) (.a (.sl e 0 0 2)) (put e (.flat false (encC [])) (kill [e] σ)))) : WH Γ dsts (⟨some e, .bsl 2 0 [.int .i8 0, .int .i8 0] [], g, l1, l2, l3, l4⟩ :: ops) Q σ :=
  WH.mk (d := e) (ob := .flat false (encC [])) hw rfl rfl (by simp [makes, veil, all?, cellsOf, fill, replicate, List.replicate, encC]) hp hi hv rfl k
theorem WR.bs1 {e : Nat} {a0 : Opd} {x0 y0 : Int} (hw : wanted dsts σ.env g = some true) (h0 : ev σ.env a0 = .a (.d (.agg [.int .i8 x0, .int .i8 y0]))) (hp : noPar σ [e] = true) (k : WR Γ dsts ops Q (set (some e) (.a (.sl e 0 1 2)) (put e (.flat false (encC [(x0, y0)])) (kill [e] σ)))) : WR Γ dsts (⟨some e, .bsl 2 1 [.int .i8 0, .int .i8 0] [(0, a0)], g, l1, l2, l3, l4⟩ :: ops) Q σ :=
  WR.mk (d := e) (ob := .flat false (encC [(x0, y0)])) hw rfl rfl (by simp [makes, all?, h0, cellsOf, fill, replicate, List.replicate, encC]) hp k
theorem WH.bs1 {e : Nat} {a0 : Opd} {x0 y0 : Int} (hw : wanted dsts (kill l1 (only l3 σ)).env g = some true) (h0 : ev (kill l1 (only l3 σ)).env a0 = .a (.d (.agg [.int .i8 x0, .int .i8 y0]))) (hp : noPar σ [e] = true) (hi : l2.contains e = true) (hv : killV l1 (.a (.sl e 0 1 2)) = .a (.sl e 0 1 2)) (k : WH Γ dsts ops Q (set (some e) (.a (.sl e 0 1 2)) (put e (.flat false (encC [(x0, y0)])) (kill [e] σ)))) : WH Γ dsts (⟨some e, .bsl 2 1 [.int .i8 0, .int .i8 0] [(0, a0)], g, l1, l2, l3, l4⟩ :: ops) Q σ :=
  WH.mk (d := e) (ob := .flat false (encC [(x0, y0)])) hw rfl rfl (by simp [makes, veil, all?, h0, cellsOf, fill, replicate, List.replicate, encC]) hp hi hv rfl k
theorem WR.bs4 {e : Nat} {a0 : Opd} {x0 y0 : Int} {a1 : Opd} {x1 y1 : Int} {a2 : Opd} {x2 y2 : Int} {a3 : Opd} {x3 y3 : Int} (hw : wanted dsts σ.env g = some true) (h0 : ev σ.env a0 = .a (.d (.agg [.int .i8 x0, .int .i8 y0]))) (h1 : ev σ.env a1 = .a (.d (.agg [.int .i8 x1, .int .i8 y1]))) (h2 : ev σ.env a2 = .a (.d (.agg [.int .i8 x2, .int .i8 y2]))) (h3 : ev σ.env a3 = .a (.d (.agg [.int .i8 x3, .int .i8 y3]))) (hp : noPar σ [e] = true) (k : WR Γ dsts ops Q (set (some e) (.a (.sl e 0 4 2)) (put e (.flat false (encC [(x0, y0), (x1, y1), (x2, y2), (x3, y3)])) (kill [e] σ)))) : WR Γ dsts (⟨some e, .bsl 2 4 [.int .i8 0, .int .i8 0] [(0, a0), (1, a1), (2, a2), (3, a3)], g, l1, l2, l3, l4⟩ :: ops) Q σ :=
  WR.mk (d := e) (ob := .flat false (encC [(x0, y0), (x1, y1), (x2, y2), (x3, y3)])) hw rfl rfl (by simp [makes, all?, h0, h1, h2, h3, cellsOf, fill, replicate, List.replicate, encC]) hp k
theorem WH.bs4 {e : Nat} {a0 : Opd} {x0 y0 : Int} {a1 : Opd} {x1 y1 : Int} {a2 : Opd} {x2 y2 : Int} {a3 : Opd} {x3 y3 : Int} (hw : wanted dsts (kill l1 (only l3 σ)).env g = some true) (h0 : ev (kill l1 (only l3 σ)).env a0 = .a (.d (.agg [.int .i8 x0, .int .i8 y0]))) (h1 : ev (kill l1 (only l3 σ)).env a1 = .a (.d (.agg [.int .i8 x1, .int .i8 y1]))) (h2 : ev (kill l1 (only l3 σ)).env a2 = .a (.d (.agg [.int .i8 x2, .int .i8 y2]))) (h3 : ev (kill l1 (only l3 σ)).env a3 = .a (.d (.agg [.int .i8 x3, .int .i8 y3]))) (hp : noPar σ [e] = true) (hi : l2.contains e = true) (hv : killV l1 (.a (.sl e 0 4 2)) = .a (.sl e 0 4 2)) (k : WH Γ dsts ops Q (set (some e) (.a (.sl e 0 4 2)) (put e (.flat false (encC [(x0, y0), (x1, y1), (x2, y2), (x3, y3)])) (kill [e] σ)))) : WH Γ dsts (⟨some e, .bsl 2 4 [.int .i8 0, .int .i8 0] [(0, a0), (1, a1), (2, a2), (3, a3)], g, l1, l2, l3, l4⟩ :: ops) Q σ :=
  WH.mk (d := e) (ob := .flat false (encC [(x0, y0), (x1, y1), (x2, y2), (x3, y3)])) hw rfl rfl (by simp [makes, veil, all?, h0, h1, h2, h3, cellsOf, fill, replicate, List.replicate, encC]) hp hi hv rfl k
theorem WR.c_s {f e : Nat} {xs : List Opd} {fn : Fn} {as : List Arg} {b0 : S} (hw : wanted dsts σ.env g = some true) (hΓ : Γ f = some fn) (hn : mutIds fn.muts (xs.map (ev σ.env)) = []) (hb : backs σ fn.muts (xs.map (ev σ.env)) [] = some []) (ha : args σ [] fn.muts (xs.map (ev σ.env)) = some as) (hg : Gives Γ f as ⟨[.s b0], []⟩)
    (k : WR Γ dsts ops Q (set (some e) (.a (.d (.s b0))) σ)) : WR Γ dsts (⟨some e, .call f xs, g, l1, l2, l3, l4⟩ :: ops) Q σ := by
  refine WR.call (d := e) (v := .a (.d (.s b0))) (ps := []) (ns := []) hw rfl rfl hΓ (by rw [hn]; rfl) (by rw [hn]; exact ha) hg hb rfl rfl rfl ?_
  simp only [List.nil_append, List.append_nil, List.map_nil, List.map_cons, insertAll, kill_nil]
  exact k
theorem WH.c_s {f e : Nat} {xs : List Opd} {fn : Fn} {as : List Arg} {b0 : S} (hw : wanted dsts (kill l1 (only l3 σ)).env g = some true) (hΓ : Γ f = some fn) (hn : mutIds fn.muts (xs.map (ev (kill l1 (only l3 σ)).env)) = []) (hb : backs (kill l1 (only l3 σ)) fn.muts (xs.map (ev (kill l1 (only l3 σ)).env)) [] = some []) (ha : args (kill l1 (only l3 σ)) [] fn.muts (xs.map (ev (kill l1 (only l3 σ)).env)) = some as) (hg : Gives Γ f as ⟨[.s b0], []⟩) (hv : killV l1 (.a (.d (.s b0))) = .a (.d (.s b0)))
    (k : WH Γ dsts ops Q (set (some e) (.a (.d (.s b0))) σ)) : WH Γ dsts (⟨some e, .call f xs, g, l1, l2, l3, l4⟩ :: ops) Q σ := by
  refine WH.call (d := e) (v := .a (.d (.s b0))) (ps := []) (ns := []) (vs := xs.map (ev (kill l1 (only l3 σ)).env)) hw rfl rfl hΓ (by rw [hn]; rfl) (by rw [hn]; exact ha) hg hb rfl rfl rfl rfl rfl hv rfl ?_
  simp only [List.nil_append, List.append_nil, List.map_nil, List.map_cons, insertAll, kill_nil]
  exact k
theorem WR.c_ss {f e : Nat} {xs : List Opd} {fn : Fn} {as : List Arg} {b0 : S} {b1 : S} (hw : wanted dsts σ.env g = some true) (hΓ : Γ f = some fn) (hn : mutIds fn.muts (xs.map (ev σ.env)) = []) (hb : backs σ fn.muts (xs.map (ev σ.env)) [] = some []) (ha : args σ [] fn.muts (xs.map (ev σ.env)) = some as) (hg : Gives Γ f as ⟨[.s b0, .s b1], []⟩)
    (k : WR Γ dsts ops Q (set (some e) (.tup [.d (.s b0), .d (.s b1)]) σ)) : WR Γ dsts (⟨some e, .call f xs, g, l1, l2, l3, l4⟩ :: ops) Q σ := by
  refine WR.call (d := e) (v := .tup [.d (.s b0), .d (.s b1)]) (ps := []) (ns := []) hw rfl rfl hΓ (by rw [hn]; rfl) (by rw [hn]; exact ha) hg hb rfl rfl rfl ?_
  simp only [List.nil_append, List.append_nil, List.map_nil, List.map_cons, insertAll, kill_nil]
  exact k
theorem WH.c_ss {f e : Nat} {xs : List Opd} {fn : Fn} {as : List Arg} {b0 : S} {b1 : S} (hw : wanted dsts (kill l1 (only l3 σ)).env g = some true) (hΓ : Γ f = some fn) (hn : mutIds fn.muts (xs.map (ev (kill l1 (only l3 σ)).env)) = []) (hb : backs (kill l1 (only l3 σ)) fn.muts (xs.map (ev (kill l1 (only l3 σ)).env)) [] = some []) (ha : args (kill l1 (only l3 σ)) [] fn.muts (xs.map (ev (kill l1 (only l3 σ)).env)) = some as) (hg : Gives Γ f as ⟨[.s b0, .s b1], []⟩) (hv : killV l1 (.tup [.d (.s b0), .d (.s b1)]) = .tup [.d (.s b0), .d (.s b1)])
    (k : WH Γ dsts ops Q (set (some e) (.tup [.d (.s b0), .d (.s b1)]) σ)) : WH Γ dsts (⟨some e, .call f xs, g, l1, l2, l3, l4⟩ :: ops) Q σ := by
  refine WH.call (d := e) (v := .tup [.d (.s b0), .d (.s b1)]) (ps := []) (ns := []) (vs := xs.map (ev (kill l1 (only l3 σ)).env)) hw rfl rfl hΓ (by rw [hn]; rfl) (by rw [hn]; exact ha) hg hb rfl rfl rfl rfl rfl hv rfl ?_
  simp only [List.nil_append, List.append_nil, List.map_nil, List.map_cons, insertAll, kill_nil]
  exact k
theorem WR.c_a {f e : Nat} {xs : List Opd} {fn : Fn} {as : List Arg} {b0 : List S} (hw : wanted dsts σ.env g = some true) (hΓ : Γ f = some fn) (hn : mutIds fn.muts (xs.map (ev σ.env)) = []) (hb : backs σ fn.muts (xs.map (ev σ.env)) [] = some []) (ha : args σ [] fn.muts (xs.map (ev σ.env)) = some as) (hg : Gives Γ f as ⟨[.agg b0], []⟩)
    (k : WR Γ dsts ops Q (set (some e) (.a (.d (.agg b0))) σ)) : WR Γ dsts (⟨some e, .call f xs, g, l1, l2, l3, l4⟩ :: ops) Q σ := by
  refine WR.call (d := e) (v := .a (.d (.agg b0))) (ps := []) (ns := []) hw rfl rfl hΓ (by rw [hn]; rfl) (by rw [hn]; exact ha) hg hb rfl rfl rfl ?_
  simp only [List.nil_append, List.append_nil, List.map_nil, List.map_cons, insertAll, kill_nil]
  exact k
theorem WH.c_a {f e : Nat} {xs : List Opd} {fn : Fn} {as : List Arg} {b0 : List S} (hw : wanted dsts (kill l1 (only l3 σ)).env g = some true) (hΓ : Γ f = some fn) (hn : mutIds fn.muts (xs.map (ev (kill l1 (only l3 σ)).env)) = []) (hb : backs (kill l1 (only l3 σ)) fn.muts (xs.map (ev (kill l1 (only l3 σ)).env)) [] = some []) (ha : args (kill l1 (only l3 σ)) [] fn.muts (xs.map (ev (kill l1 (only l3 σ)).env)) = some as) (hg : Gives Γ f as ⟨[.agg b0], []⟩) (hv : killV l1 (.a (.d (.agg b0))) = .a (.d (.agg b0)))
    (k : WH Γ dsts ops Q (set (some e) (.a (.d (.agg b0))) σ)) : WH Γ dsts (⟨some e, .call f xs, g, l1, l2, l3, l4⟩ :: ops) Q σ := by
  refine WH.call (d := e) (v := .a (.d (.agg b0))) (ps := []) (ns := []) (vs := xs.map (ev (kill l1 (only l3 σ)).env)) hw rfl rfl hΓ (by rw [hn]; rfl) (by rw [hn]; exact ha) hg hb rfl rfl rfl rfl rfl hv rfl ?_
  simp only [List.nil_append, List.append_nil, List.map_nil, List.map_cons, insertAll, kill_nil]
  exact k
theorem WR.c_o {f e : Nat} {xs : List Opd} {fn : Fn} {as : List Arg} {n0 m0 : Nat} {b0 : List S} (hw : wanted dsts σ.env g = some true) (hΓ : Γ f = some fn) (hn : mutIds fn.muts (xs.map (ev σ.env)) = []) (hb : backs σ fn.muts (xs.map (ev σ.env)) [] = some []) (ha : args σ [] fn.muts (xs.map (ev σ.env)) = some as) (hg : Gives Γ f as ⟨[.own n0 m0 b0], []⟩) (hp : noPar σ [e] = true)
    (k : WR Γ dsts ops Q (set (some e) (.a (.sl e 0 n0 m0)) (put e (.flat false b0) (kill [e] σ)))) : WR Γ dsts (⟨some e, .call f xs, g, l1, l2, l3, l4⟩ :: ops) Q σ := by
  refine WR.call (d := e) (v := .a (.sl e 0 n0 m0)) (ps := []) (ns := [(e, .flat false b0)]) hw rfl rfl hΓ (by rw [hn]; rfl) (by rw [hn]; exact ha) hg hb rfl rfl hp ?_
  simp only [List.nil_append, List.append_nil, List.map_nil, List.map_cons, insertAll, kill_nil]
  exact k
theorem WH.c_o {f e : Nat} {xs : List Opd} {fn : Fn} {as : List Arg} {n0 m0 : Nat} {b0 : List S} (hw : wanted dsts (kill l1 (only l3 σ)).env g = some true) (hΓ : Γ f = some fn) (hn : mutIds fn.muts (xs.map (ev (kill l1 (only l3 σ)).env)) = []) (hb : backs (kill l1 (only l3 σ)) fn.muts (xs.map (ev (kill l1 (only l3 σ)).env)) [] = some []) (ha : args (kill l1 (only l3 σ)) [] fn.muts (xs.map (ev (kill l1 (only l3 σ)).env)) = some as) (hg : Gives Γ f as ⟨[.own n0 m0 b0], []⟩) (hp : noPar σ [e] = true) (hi : ([e] : List Nat).all l2.contains = true) (hv : killV l1 (.a (.sl e 0 n0 m0)) = .a (.sl e 0 n0 m0))
    (k : WH Γ dsts ops Q (set (some e) (.a (.sl e 0 n0 m0)) (put e (.flat false b0) (kill [e] σ)))) : WH Γ dsts (⟨some e, .call f xs, g, l1, l2, l3, l4⟩ :: ops) Q σ := by
  refine WH.call (d := e) (v := .a (.sl e 0 n0 m0)) (ps := []) (ns := [(e, .flat false b0)]) (vs := xs.map (ev (kill l1 (only l3 σ)).env)) hw rfl rfl hΓ (by rw [hn]; rfl) (by rw [hn]; exact ha) hg hb rfl rfl hp (by simpa using hi) (by simpa using hi) hv rfl ?_
  simp only [List.nil_append, List.append_nil, List.map_nil, List.map_cons, insertAll, kill_nil]
  exact k
theorem WR.c_os {f e : Nat} {xs : List Opd} {fn : Fn} {as : List Arg} {n0 m0 : Nat} {b0 : List S} {b1 : S} (hw : wanted dsts σ.env g = some true) (hΓ : Γ f = some fn) (hn : mutIds fn.muts (xs.map (ev σ.env)) = []) (hb : backs σ fn.muts (xs.map (ev σ.env)) [] = some []) (ha : args σ [] fn.muts (xs.map (ev σ.env)) = some as) (hg : Gives Γ f as ⟨[.own n0 m0 b0, .s b1], []⟩) (hp : noPar σ [(1000 * (0 + 1) + e)] = true)
    (k : WR Γ dsts ops Q (set (some e) (.tup [.sl (1000 * (0 + 1) + e) 0 n0 m0, .d (.s b1)]) (put (1000 * (0 + 1) + e) (.flat false b0) (kill [(1000 * (0 + 1) + e)] σ)))) : WR Γ dsts (⟨some e, .call f xs, g, l1, l2, l3, l4⟩ :: ops) Q σ := by
  refine WR.call (d := e) (v := .tup [.sl (1000 * (0 + 1) + e) 0 n0 m0, .d (.s b1)]) (ps := []) (ns := [((1000 * (0 + 1) + e), .flat false b0)]) hw rfl rfl hΓ (by rw [hn]; rfl) (by rw [hn]; exact ha) hg hb rfl rfl hp ?_
  simp only [List.nil_append, List.append_nil, List.map_nil, List.map_cons, insertAll, kill_nil]
  exact k
theorem WH.c_os {f e : Nat} {xs : List Opd} {fn : Fn} {as : List Arg} {n0 m0 : Nat} {b0 : List S} {b1 : S} (hw : wanted dsts (kill l1 (only l3 σ)).env g = some true) (hΓ : Γ f = some fn) (hn : mutIds fn.muts (xs.map (ev (kill l1 (only l3 σ)).env)) = []) (hb : backs (kill l1 (only l3 σ)) fn.muts (xs.map (ev (kill l1 (only l3 σ)).env)) [] = some []) (ha : args (kill l1 (only l3 σ)) [] fn.muts (xs.map (ev (kill l1 (only l3 σ)).env)) = some as) (hg : Gives Γ f as ⟨[.own n0 m0 b0, .s b1], []⟩) (hp : noPar σ [(1000 * (0 + 1) + e)] = true) (hi : ([(1000 * (0 + 1) + e)] : List Nat).all l2.contains = true) (hv : killV l1 (.tup [.sl (1000 * (0 + 1) + e) 0 n0 m0, .d (.s b1)]) = .tup [.sl (1000 * (0 + 1) + e) 0 n0 m0, .d (.s b1)])
    (k : WH Γ dsts ops Q (set (some e) (.tup [.sl (1000 * (0 + 1) + e) 0 n0 m0, .d (.s b1)]) (put (1000 * (0 + 1) + e) (.flat false b0) (kill [(1000 * (0 + 1) + e)] σ)))) : WH Γ dsts (⟨some e, .call f xs, g, l1, l2, l3, l4⟩ :: ops) Q σ := by
  refine WH.call (d := e) (v := .tup [.sl (1000 * (0 + 1) + e) 0 n0 m0, .d (.s b1)]) (ps := []) (ns := [((1000 * (0 + 1) + e), .flat false b0)]) (vs := xs.map (ev (kill l1 (only l3 σ)).env)) hw rfl rfl hΓ (by rw [hn]; rfl) (by rw [hn]; exact ha) hg hb rfl rfl hp (by simpa using hi) (by simpa using hi) hv rfl ?_
  simp only [List.nil_append, List.append_nil, List.map_nil, List.map_cons, insertAll, kill_nil]
  exact k
theorem WR.c_oss {f e : Nat} {xs : List Opd} {fn : Fn} {as : List Arg} {n0 m0 : Nat} {b0 : List S} {b1 : S} {b2 : S} (hw : wanted dsts σ.env g = some true) (hΓ : Γ f = some fn) (hn : mutIds fn.muts (xs.map (ev σ.env)) = []) (hb : backs σ fn.muts (xs.map (ev σ.env)) [] = some []) (ha : args σ [] fn.muts (xs.map (ev σ.env)) = some as) (hg : Gives Γ f as ⟨[.own n0 m0 b0, .s b1, .s b2], []⟩) (hp : noPar σ [(1000 * (0 + 1) + e)] = true)
    (k : WR Γ dsts ops Q (set (some e) (.tup [.sl (1000 * (0 + 1) + e) 0 n0 m0, .d (.s b1), .d (.s b2)]) (put (1000 * (0 + 1) + e) (.flat false b0) (kill [(1000 * (0 + 1) + e)] σ)))) : WR Γ dsts (⟨some e, .call f xs, g, l1, l2, l3, l4⟩ :: ops) Q σ := by
  refine WR.call (d := e) (v := .tup [.sl (1000 * (0 + 1) + e) 0 n0 m0, .d (.s b1), .d (.s b2)]) (ps := []) (ns := [((1000 * (0 + 1) + e), .flat false b0)]) hw rfl rfl hΓ (by rw [hn]; rfl) (by rw [hn]; exact ha) hg hb rfl rfl hp ?_
  simp only [List.nil_append, List.append_nil, List.map_nil, List.map_cons, insertAll, kill_nil]
  exact k
theorem WH.c_oss {f e : Nat} {xs : List Opd} {fn : Fn} {as : List Arg} {n0 m0 : Nat} {b0 : List S} {b1 : S} {b2 : S} (hw : wanted dsts (kill l1 (only l3 σ)).env g = some true) (hΓ : Γ f = some fn) (hn : mutIds fn.muts (xs.map (ev (kill l1 (only l3 σ)).env)) = []) (hb : backs (kill l1 (only l3 σ)) fn.muts (xs.map (ev (kill l1 (only l3 σ)).env)) [] = some []) (ha : args (kill l1 (only l3 σ)) [] fn.muts (xs.map (ev (kill l1 (only l3 σ)).env)) = some as) (hg : Gives Γ f as ⟨[.own n0 m0 b0, .s b1, .s b2], []⟩) (hp : noPar σ [(1000 * (0 + 1) + e)] = true) (hi : ([(1000 * (0 + 1) + e)] : List Nat).all l2.contains = true) (hv : killV l1 (.tup [.sl (1000 * (0 + 1) + e) 0 n0 m0, .d (.s b1), .d (.s b2)]) = .tup [.sl (1000 * (0 + 1) + e) 0 n0 m0, .d (.s b1), .d (.s b2)])
    (k : WH Γ dsts ops Q (set (some e) (.tup [.sl (1000 * (0 + 1) + e) 0 n0 m0, .d (.s b1), .d (.s b2)]) (put (1000 * (0 + 1) + e) (.flat false b0) (kill [(1000 * (0 + 1) + e)] σ)))) : WH Γ dsts (⟨some e, .call f xs, g, l1, l2, l3, l4⟩ :: ops) Q σ := by
  refine WH.call (d := e) (v := .tup [.sl (1000 * (0 + 1) + e) 0 n0 m0, .d (.s b1), .d (.s b2)]) (ps := []) (ns := [((1000 * (0 + 1) + e), .flat false b0)]) (vs := xs.map (ev (kill l1 (only l3 σ)).env)) hw rfl rfl hΓ (by rw [hn]; rfl) (by rw [hn]; exact ha) hg hb rfl rfl hp (by simpa using hi) (by simpa using hi) hv rfl ?_
  simp only [List.nil_append, List.append_nil, List.map_nil, List.map_cons, insertAll, kill_nil]
  exact k
theorem WR.c_as {f e : Nat} {xs : List Opd} {fn : Fn} {as : List Arg} {b0 : List S} {b1 : S} (hw : wanted dsts σ.env g = some true) (hΓ : Γ f = some fn) (hn : mutIds fn.muts (xs.map (ev σ.env)) = []) (hb : backs σ fn.muts (xs.map (ev σ.env)) [] = some []) (ha : args σ [] fn.muts (xs.map (ev σ.env)) = some as) (hg : Gives Γ f as ⟨[.agg b0, .s b1], []⟩)
    (k : WR Γ dsts ops Q (set (some e) (.tup [.d (.agg b0), .d (.s b1)]) σ)) : WR Γ dsts (⟨some e, .call f xs, g, l1, l2, l3, l4⟩ :: ops) Q σ := by
  refine WR.call (d := e) (v := .tup [.d (.agg b0), .d (.s b1)]) (ps := []) (ns := []) hw rfl rfl hΓ (by rw [hn]; rfl) (by rw [hn]; exact ha) hg hb rfl rfl rfl ?_
  simp only [List.nil_append, List.append_nil, List.map_nil, List.map_cons, insertAll, kill_nil]
  exact k
theorem WH.c_as {f e : Nat} {xs : List Opd} {fn : Fn} {as : List Arg} {b0 : List S} {b1 : S} (hw : wanted dsts (kill l1 (only l3 σ)).env g = some true) (hΓ : Γ f = some fn) (hn : mutIds fn.muts (xs.map (ev (kill l1 (only l3 σ)).env)) = []) (hb : backs (kill l1 (only l3 σ)) fn.muts (xs.map (ev (kill l1 (only l3 σ)).env)) [] = some []) (ha : args (kill l1 (only l3 σ)) [] fn.muts (xs.map (ev (kill l1 (only l3 σ)).env)) = some as) (hg : Gives Γ f as ⟨[.agg b0, .s b1], []⟩) (hv : killV l1 (.tup [.d (.agg b0), .d (.s b1)]) = .tup [.d (.agg b0), .d (.s b1)])
    (k : WH Γ dsts ops Q (set (some e) (.tup [.d (.agg b0), .d (.s b1)]) σ)) : WH Γ dsts (⟨some e, .call f xs, g, l1, l2, l3, l4⟩ :: ops) Q σ := by
  refine WH.call (d := e) (v := .tup [.d (.agg b0), .d (.s b1)]) (ps := []) (ns := []) (vs := xs.map (ev (kill l1 (only l3 σ)).env)) hw rfl rfl hΓ (by rw [hn]; rfl) (by rw [hn]; exact ha) hg hb rfl rfl rfl rfl rfl hv rfl ?_
  simp only [List.nil_append, List.append_nil, List.map_nil, List.map_cons, insertAll, kill_nil]
  exact k
theorem WR.c_ass {f e : Nat} {xs : List Opd} {fn : Fn} {as : List Arg} {b0 : List S} {b1 : S} {b2 : S} (hw : wanted dsts σ.env g = some true) (hΓ : Γ f = some fn) (hn : mutIds fn.muts (xs.map (ev σ.env)) = []) (hb : backs σ fn.muts (xs.map (ev σ.env)) [] = some []) (ha : args σ [] fn.muts (xs.map (ev σ.env)) = some as) (hg : Gives Γ f as ⟨[.agg b0, .s b1, .s b2], []⟩)
    (k : WR Γ dsts ops Q (set (some e) (.tup [.d (.agg b0), .d (.s b1), .d (.s b2)]) σ)) : WR Γ dsts (⟨some e, .call f xs, g, l1, l2, l3, l4⟩ :: ops) Q σ := by
  refine WR.call (d := e) (v := .tup [.d (.agg b0), .d (.s b1), .d (.s b2)]) (ps := []) (ns := []) hw rfl rfl hΓ (by rw [hn]; rfl) (by rw [hn]; exact ha) hg hb rfl rfl rfl ?_
  simp only [List.nil_append, List.append_nil, List.map_nil, List.map_cons, insertAll, kill_nil]
  exact k
theorem WH.c_ass {f e : Nat} {xs : List Opd} {fn : Fn} {as : List Arg} {b0 : List S} {b1 : S} {b2 : S} (hw : wanted dsts (kill l1 (only l3 σ)).env g = some true) (hΓ : Γ f = some fn) (hn : mutIds fn.muts (xs.map (ev (kill l1 (only l3 σ)).env)) = []) (hb : backs (kill l1 (only l3 σ)) fn.muts (xs.map (ev (kill l1 (only l3 σ)).env)) [] = some []) (ha : args (kill l1 (only l3 σ)) [] fn.muts (xs.map (ev (kill l1 (only l3 σ)).env)) = some as) (hg : Gives Γ f as ⟨[.agg b0, .s b1, .s b2], []⟩) (hv : killV l1 (.tup [.d (.agg b0), .d (.s b1), .d (.s b2)]) = .tup [.d (.agg b0), .d (.s b1), .d (.s b2)])
    (k : WH Γ dsts ops Q (set (some e) (.tup [.d (.agg b0), .d (.s b1), .d (.s b2)]) σ)) : WH Γ dsts (⟨some e, .call f xs, g, l1, l2, l3, l4⟩ :: ops) Q σ := by
  refine WH.call (d := e) (v := .tup [.d (.agg b0), .d (.s b1), .d (.s b2)]) (ps := []) (ns := []) (vs := xs.map (ev (kill l1 (only l3 σ)).env)) hw rfl rfl hΓ (by rw [hn]; rfl) (by rw [hn]; exact ha) hg hb rfl rfl rfl rfl rfl hv rfl ?_
  simp only [List.nil_append, List.append_nil, List.map_nil, List.map_cons, insertAll, kill_nil]
  exact k
theorem WR.c_aa {f e : Nat} {xs : List Opd} {fn : Fn} {as : List Arg} {b0 : List S} {b1 : List S} (hw : wanted dsts σ.env g = some true) (hΓ : Γ f = some fn) (hn : mutIds fn.muts (xs.map (ev σ.env)) = []) (hb : backs σ fn.muts (xs.map (ev σ.env)) [] = some []) (ha : args σ [] fn.muts (xs.map (ev σ.env)) = some as) (hg : Gives Γ f as ⟨[.agg b0, .agg b1], []⟩)
    (k : WR Γ dsts ops Q (set (some e) (.tup [.d (.agg b0), .d (.agg b1)]) σ)) : WR Γ dsts (⟨some e, .call f xs, g, l1, l2, l3, l4⟩ :: ops) Q σ := by
  refine WR.call (d := e) (v := .tup [.d (.agg b0), .d (.agg b1)]) (ps := []) (ns := []) hw rfl rfl hΓ (by rw [hn]; rfl) (by rw [hn]; exact ha) hg hb rfl rfl rfl ?_
  simp only [List.nil_append, List.append_nil, List.map_nil, List.map_cons, insertAll, kill_nil]
  exact k
theorem WH.c_aa {f e : Nat} {xs : List Opd} {fn : Fn} {as : List Arg} {b0 : List S} {b1 : List S} (hw : wanted dsts (kill l1 (only l3 σ)).env g = some true) (hΓ : Γ f = some fn) (hn : mutIds fn.muts (xs.map (ev (kill l1 (only l3 σ)).env)) = []) (hb : backs (kill l1 (only l3 σ)) fn.muts (xs.map (ev (kill l1 (only l3 σ)).env)) [] = some []) (ha : args (kill l1 (only l3 σ)) [] fn.muts (xs.map (ev (kill l1 (only l3 σ)).env)) = some as) (hg : Gives Γ f as ⟨[.agg b0, .agg b1], []⟩) (hv : killV l1 (.tup [.d (.agg b0), .d (.agg b1)]) = .tup [.d (.agg b0), .d (.agg b1)])
    (k : WH Γ dsts ops Q (set (some e) (.tup [.d (.agg b0), .d (.agg b1)]) σ)) : WH Γ dsts (⟨some e, .call f xs, g, l1, l2, l3, l4⟩ :: ops) Q σ := by
  refine WH.call (d := e) (v := .tup [.d (.agg b0), .d (.agg b1)]) (ps := []) (ns := []) (vs := xs.map (ev (kill l1 (only l3 σ)).env)) hw rfl rfl hΓ (by rw [hn]; rfl) (by rw [hn]; exact ha) hg hb rfl rfl rfl rfl rfl hv rfl ?_
  simp only [List.nil_append, List.append_nil, List.map_nil, List.map_cons, insertAll, kill_nil]
  exact k
theorem WR.c_p {f e : Nat} {xs : List Opd} {fn : Fn} {as : List Arg} {p : Prop} {dp : Decidable p} (hw : wanted dsts σ.env g = some true) (hΓ : Γ f = some fn) (hn : mutIds fn.muts (xs.map (ev σ.env)) = []) (hb : backs σ fn.muts (xs.map (ev σ.env)) [] = some []) (ha : args σ [] fn.muts (xs.map (ev σ.env)) = some as) (hg : Gives Γ f as ⟨[.s (.bool (decide p))], []⟩)
    (k1 : p → WR Γ dsts ops Q (set (some e) (.a (.d (.s (.bool true)))) σ)) (k2 : ¬ p → WR Γ dsts ops Q (set (some e) (.a (.d (.s (.bool false)))) σ)) : WR Γ dsts (⟨some e, .call f xs, g, l1, l2, l3, l4⟩ :: ops) Q σ := by
  refine WR.c_s hw hΓ hn hb ha hg ?_
  by_cases h : p
  · simp only [h, decide_true]; exact k1 h
  · simp only [h, decide_false]; exact k2 h
theorem WH.c_p {f e : Nat} {xs : List Opd} {fn : Fn} {as : List Arg} {p : Prop} {dp : Decidable p} (hw : wanted dsts (kill l1 (only l3 σ)).env g = some true) (hΓ : Γ f = some fn) (hn : mutIds fn.muts (xs.map (ev (kill l1 (only l3 σ)).env)) = []) (hb : backs (kill l1 (only l3 σ)) fn.muts (xs.map (ev (kill l1 (only l3 σ)).env)) [] = some []) (ha : args (kill l1 (only l3 σ)) [] fn.muts (xs.map (ev (kill l1 (only l3 σ)).env)) = some as) (hg : Gives Γ f as ⟨[.s (.bool (decide p))], []⟩)
    (k1 : p → WH Γ dsts ops Q (set (some e) (.a (.d (.s (.bool true)))) σ)) (k2 : ¬ p → WH Γ dsts ops Q (set (some e) (.a (.d (.s (.bool false)))) σ)) : WH Γ dsts (⟨some e, .call f xs, g, l1, l2, l3, l4⟩ :: ops) Q σ := by
  refine WH.c_s hw hΓ hn hb ha hg rfl ?_
  by_cases h : p
  · simp only [h, decide_true]; exact k1 h
  · simp only [h, decide_false]; exact k2 h
end
section
variable {σ : St} {as : List Arg}
theorem all_nil {α β : Type} {f : α → Option β} : all? f [] = some [] := rfl
theorem all_cons {α β : Type} {f : α → Option β} {x : α} {xs : List α} {y : β} {ys : List β} (h : f x = some y) (hr : all? f xs = some ys) : all? f (x :: xs) = some (y :: ys) := by
  simp only [all?, h, hr, Option.bind_some, Option.map_some]
theorem res_tmp {t : Nat} {v : V} (h : σ.env t = v) : resV σ (.tmp t) = some v := by rw [← h]; rfl
theorem res_cell {t n p : Nat} {b : Bool} {cs : List S} (he : σ.env t = .a (.ptr p 0)) (ho : σ.objs p = some (.flat b cs)) (hl : cs.length = n) : resV σ (.cell t n true) = some (.a (.d (.agg cs))) := by
  simp only [resV, he, load, ho, loadC_all hl]
theorem retOf_s {v : V} {x : S} (h : v = .a (.d (.s x))) : retOf as σ v = some (.s x, none) := by subst h; rfl
theorem retOf_a {v : V} {x : List S} (h : v = .a (.d (.agg x))) : retOf as σ v = some (.agg x, none) := by subst h; rfl
theorem retOf_o {v : V} {p n es : Nat} {cs : List S} (h : v = .a (.sl p 0 n es)) (ho : σ.objs p = some (.flat false cs)) (hl : cs.length = n * es) : retOf as σ v = some (.own n es cs, some p) := by
  subst h
  simp only [retOf, ho]
  rw [if_pos (by omega), List.drop_zero, ← hl, List.take_length]
theorem outs_nil {i : Nat} : outsOf σ i [] = some [] := rfl
theorem outs_d {i : Nat} {x : D} {xs : List Arg} {os : List (List S)} (hr : outsOf σ (i + 1) xs = some os) : outsOf σ i (.d x :: xs) = some os := by
  simp only [outsOf, isMut, Bool.false_eq_true, if_false, hr]
theorem outs_mp {i : Nat} {cs cs' : List S} {xs : List Arg} {os : List (List S)} (ho : σ.objs i = some (.flat true cs')) (hl : cs'.length = cs.length) (hr : outsOf σ (i + 1) xs = some os) : outsOf σ i (.mp cs :: xs) = some (cs' :: os) := by
  simp only [outsOf, isMut, if_true, outOf, ho, hr, Option.map_some]
  rw [if_pos hl]; rfl
theorem Done.f {fn : Fn} {r : Res} {vs : List V} {rs : List (Ret × Option Nat)} {outs : List (List S)} {e : Ex} (he : ∀ id, e ≠ .exit id) (h1 : all? (resV σ) fn.res = some vs) (h2 : all? (retOf as σ) vs = some rs) (h3 : nodup (rs.filterMap (·.2)) = true) (h4 : outsOf σ 0 as = some outs) (h5 : (⟨rs.map (·.1), outs⟩ : Res) = r) : Done fn as r e σ := by
  refine ⟨he, ⟨_, outs⟩, ?_, h5⟩
  simp only [finish, h1, h2, h3, h4, Option.bind_some, if_true, Option.map_some]
end
section
variable {a b c d x y : S} {p : Bool}
theorem ld2 : loadC 2 true [a, b] 0 = some (.a (.d (.agg [a, b]))) := rfl
theorem ldM4 : loadC 4 true [a, b, c, d] 0 = some (.a (.d (.agg [a, b, c, d]))) := rfl
theorem st2 : storeO 2 (.a (.d (.agg [x, y]))) 0 (.flat p [a, b]) = some (.flat p [x, y]) := rfl
theorem stM0 : storeO 2 (.a (.d (.agg [x, y]))) 0 (.flat p [a, b, c, d]) = some (.flat p [x, y, c, d]) := rfl
theorem stM2 : storeO 2 (.a (.d (.agg [x, y]))) 2 (.flat p [a, b, c, d]) = some (.flat p [a, b, x, y]) := rfl
end
theorem WR.c_ws {Γ : Nat → Option Fn} {dsts : Nat → Option Nat} {ops : List Oper} {Q : St → Prop} {σ : St} {g : Option (Nat × Bool)} {l1 l2 l3 l4 : List Nat} {f e : Nat} {xs : List Opd} {fn : Fn} {as : List Arg} {b : S} {outs : List (List S)} {ps : List (Nat × Ob)} (hw : wanted dsts σ.env g = some true) (hΓ : Γ f = some fn)
    (hn : nodup (mutIds fn.muts (xs.map (ev σ.env))) = true) (ha : args σ (mutIds fn.muts (xs.map (ev σ.env))) fn.muts (xs.map (ev σ.env)) = some as) (hg : Gives Γ f as ⟨[.s b], outs⟩) (hb : backs σ fn.muts (xs.map (ev σ.env)) outs = some ps)
    (k : WR Γ dsts ops Q (set (some e) (.a (.d (.s b))) (insertAll ps σ))) : WR Γ dsts (⟨some e, .call f xs, g, l1, l2, l3, l4⟩ :: ops) Q σ := by
  refine WR.call (d := e) (v := .a (.d (.s b))) (ps := ps) (ns := []) hw rfl rfl hΓ hn ha hg hb rfl rfl rfl ?_
  simp only [List.append_nil, List.map_nil, kill_nil]
  exact k
section
variable {l : List Cel} {i : Nat} {p : Bool} {a : Int}
theorem encC_get0 : ∀ {l : List Cel} {i : Nat}, i < l.length → (encC l)[i * 2]? = some (.int .i8 (gC l i).1)
  | [], i, h => by simp at h
  | c :: r, 0, h => by simp [encC, gC]
  | c :: r, i + 1, h => by
    rw [show (i + 1) * 2 = i * 2 + 1 + 1 by omega]
    simp only [encC, List.getElem?_cons_succ]
    rw [encC_get0 (l := r) (by simpa using h)]
    simp [gC]
theorem encC_get1 : ∀ {l : List Cel} {i : Nat}, i < l.length → (encC l)[i * 2 + 1]? = some (.int .i8 (gC l i).2)
  | [], i, h => by simp at h
  | c :: r, 0, h => by simp [encC, gC]
  | c :: r, i + 1, h => by
    rw [show (i + 1) * 2 + 1 = i * 2 + 1 + 1 + 1 by omega]
    simp only [encC, List.getElem?_cons_succ]
    rw [encC_get1 (l := r) (by simpa using h)]
    simp [gC]
theorem ldCx (h : i < l.length) : loadC 1 false (encC l) (0 + i * 2 + 0) = some (.a (.d (.s (.int .i8 (gC l i).1)))) := loadC_one (by rw [Nat.zero_add, Nat.add_zero]; exact encC_get0 h)
theorem ldCy (h : i < l.length) : loadC 1 false (encC l) (0 + i * 2 + 1) = some (.a (.d (.s (.int .i8 (gC l i).2)))) := loadC_one (by rw [Nat.zero_add]; exact encC_get1 h)
theorem ldCxd (h : i < l.length) : loadC 1 false (encC l) (i * 2 + 0) = some (.a (.d (.s (.int .i8 (gC l i).1)))) := loadC_one (encC_get0 h)
theorem ldCyd (h : i < l.length) : loadC 1 false (encC l) (i * 2 + 1) = some (.a (.d (.s (.int .i8 (gC l i).2)))) := loadC_one (encC_get1 h)
end
def rowI (k : IntKind) (n : Nat) (f : Nat → Int) : List S := (List.range n).map fun i => .int k (f i)
theorem rowI_len {k : IntKind} {n : Nat} {f : Nat → Int} : (rowI k n f).length = n := by simp [rowI]
theorem rowI_get {k : IntKind} {n i : Nat} {f : Nat → Int} (h : i < n) : (rowI k n f)[i]? = some (.int k (f i)) := by simp [rowI, h]
theorem ldR {k : IntKind} {n : Nat} {f : Nat → Int} {i : Nat} (h : i < n) : loadC 1 false (rowI k n f) (0 + i * 1) = some (.a (.d (.s (.int k (f i))))) :=
  loadC_one (by rw [Nat.zero_add, Nat.mul_one]; exact rowI_get h)
end Go.DM
