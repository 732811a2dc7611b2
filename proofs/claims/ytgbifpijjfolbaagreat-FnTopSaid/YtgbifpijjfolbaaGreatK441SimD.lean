/- Operations that make or write memory. -/
import Derived.Test.YtgbifpijjfolbaaGreatK441SimC
import Derived.Deep.AppendSrc
import Derived.Laws.MakeOwn
import Derived.Carry
set_option linter.all false
namespace Go.DM
variable [Tok]
section
variable {P : Program} {X : Cx} {φ : Nat → Option Loc} {w : World} {σ : St} {a : Act}
theorem Shape.refl (w : World) : Shape w w := fun _ c _ _ hb => ⟨c, hb, rfl⟩
theorem Does.quiet {v : V} {u : Value} (hv : VRel X φ w v u) : Does X σ { v := v } φ φ w w u where
  os := rfl
  tape := rfl
  output := rfl
  size := Nat.le_refl _
  shape := Shape.refl w
  phi := fun _ _ => rfl
  same := fun _ _ _ => rfl
  puts := fun _ _ h => by cases h
  inj := fun _ _ _ _ _ _ h => by cases h
  val := hv
  out := fun _ _ _ _ h => by cases h
structure More (w w' : World) (o : Obj) : Prop where
  os : w'.os = w.os
  tape : w'.tape = w.tape
  output : w'.output = w.output
  heap : w'.heap = w.heap.push o
theorem More.alloc (w : World) (o : Obj) : More w (w.alloc o) o := ⟨rfl, rfl, rfl, rfl⟩
theorem More.drew (w : World) (o : Obj) : More w (w.drew.alloc o) o := ⟨rfl, rfl, rfl, rfl⟩
theorem More.same {w w' : World} {o : Obj} (h : More w w' o) (b : Nat) (hb : b < w.heap.size) : Same w w' b := by
  rw [Same, h.heap, Array.getElem?_push, if_neg (by omega)]
theorem More.new {w w' : World} {o : Obj} (h : More w w' o) : w'.heap[w.heap.size]? = some o := by rw [h.heap]; simp
theorem More.size {w w' : World} {o : Obj} (h : More w w' o) : w'.heap.size = w.heap.size + 1 := by rw [h.heap]; simp
theorem More.shape {w w' : World} {o : Obj} (h : More w w' o) : Shape w w' := fun b c T fz hb => by
  have hlt : b < w.heap.size := (Array.getElem?_eq_some_iff.1 hb).1
  exact ⟨c, by rw [h.same b hlt]; exact hb, rfl⟩
theorem lookP_one {d o : Nat} {ob ob' : Ob} (h : lookP [(d, ob)] o = some ob') : o = d ∧ ob' = ob := by
  simp only [lookP] at h
  by_cases e : d = o
  · simp [e] at h
    exact ⟨e.symm, h.symm⟩
  · simp [e] at h
theorem Does.fresh {d : Nat} {ob : Ob} {v : V} {u : Value} {w' : World} {o0 : Obj} (hm : More w w' o0) (hp : parLen ob = none)
    (hob : ObRel X (upd φ d (some (w.heap.size, 0))) w' ob (w.heap.size, 0)) (hv : VRel X (upd φ d (some (w.heap.size, 0))) w' v u) :
    Does X σ { v := v, kills := [d], puts := [(d, ob)] } φ (upd φ d (some (w.heap.size, 0))) w w' u where
  os := hm.os
  tape := hm.tape
  output := hm.output
  size := by rw [hm.size]; omega
  shape := hm.shape
  phi := fun o h => by
    have : o ≠ d := by simpa using h
    simp [upd, this]
  same := fun b hb _ => hm.same b hb
  puts := fun o ob' h => by
    obtain ⟨rfl, rfl⟩ := lookP_one h
    exact ⟨(w.heap.size, 0), by simp [upd], hob, by rw [hm.size]; show w.heap.size < _; omega, .inl ⟨Nat.le_refl _, hp⟩⟩
  inj := fun o o' ob1 ob2 l l' h1 h2 _ _ _ => by
    obtain ⟨rfl, _⟩ := lookP_one h1
    obtain ⟨rfl, _⟩ := lookP_one h2
    rfl
  val := hv
  out := fun o ob1 n l h hn _ => by
    obtain ⟨rfl, rfl⟩ := lookP_one h
    rw [hp] at hn; cases hn
theorem blk_new {w' : World} {c : Array Value} {T : TypeId} (hm : More w w' (.cells c T (0, 0))) : Blk w' w.heap.size c T (0, 0) := ⟨hm.new, fun k _ h => by simp at h⟩
theorem cell_new {w' : World} {c : Array Value} {T : TypeId} (hm : More w w' (.cells c T (0, 0))) (i : Nat) : w'.cell? ⟨w.heap.size, i, none⟩ = c[i]? := by
  simp [World.cell?, hm.new]
theorem flat_new {w' : World} {cs : List S} {rest : List Value} {T : TypeId} {φ' : Nat → Option Loc} (hm : More w w' (.cells (encs cs ++ rest).toArray T (0, 0))) : ObRel X φ' w' (.flat false cs) (w.heap.size, 0) := by
  refine ⟨_, T, (0, 0), blk_new hm, by simp [encs], fun j v hj => ?_⟩
  rw [Nat.zero_add, cell_new hm]
  rw [List.getElem?_toArray, List.getElem?_append_left (List.getElem?_eq_some_iff.1 hj).1]
  exact hj
theorem room_new {w' : World} {c : Array Value} {T : TypeId} (hm : More w w' (.cells c T (0, 0))) {k : Nat} (hk : k ≤ c.size) : Room w' w.heap.size k := ⟨c, T, (0, 0), hm.new, hk⟩
theorem oneCell_enc (x : S) : (enc x).oneCell' = true := by cases x <;> rfl
theorem cells_of_ref {x : V} {u : Value} (h : VRel X φ w x u) (hc : cellsOf x = none) (ht : ∀ vs, x ≠ .tup vs) (hu : x ≠ .undef) (hdead : x ≠ .a .dead) : u.cells = #[u] ∧ u.oneCell' = true := by
  cases x with
  | a x =>
    cases x with
    | d x =>
      have h : DRel _ _ _ _ _ := h
      cases h <;> first | (simp [cellsOf] at hc; done) | exact ⟨rfl, rfl⟩
    | ptr o off => obtain ⟨l, _, rfl⟩ := h; exact ⟨rfl, rfl⟩
    | sl o off n es => obtain ⟨l, ad, cap, _, rfl, _⟩ := h; exact ⟨rfl, rfl⟩
    | dptr cs off => obtain ⟨b, o, _, rfl, _⟩ := h; exact ⟨rfl, rfl⟩
    | dptrd ds i => obtain ⟨b, o, vs, _, rfl, _⟩ := h; exact ⟨rfl, rfl⟩
    | mp o => obtain ⟨l, _, rfl⟩ := h; exact ⟨rfl, rfl⟩
    | dead => exact (hdead rfl).elim
  | clo f p q => obtain ⟨ps, qs, rfl, _⟩ := h; exact ⟨rfl, rfl⟩
  | tup vs => exact (ht vs rfl).elim
  | undef => exact (hu rfl).elim
theorem replicate_length (n : Nat) (zs : List S) : (replicate n zs).length = n * zs.length := by
  induction n with
  | zero => simp [replicate]
  | succ n ih =>
    simp only [replicate, List.replicate_succ, List.flatten_cons, List.length_append] at ih ⊢
    rw [ih, Nat.add_mul]; omega
theorem encs_replicate_get (n : Nat) (zs : List S) (k : Nat) (hk : k < n * zs.length) : (encs (replicate n zs))[k]? = (encs zs)[k % zs.length]? := by
  induction n generalizing k with
  | zero => simp at hk
  | succ n ih =>
    simp only [replicate, List.replicate_succ, List.flatten_cons, encs_append] at ih ⊢
    by_cases h : k < zs.length
    · rw [List.getElem?_append_left (by rw [encs_length]; exact h), Nat.mod_eq_of_lt h]
    · rw [List.getElem?_append_right (by rw [encs_length]; omega), encs_length]
      rw [Nat.add_mul] at hk
      rw [ih (k - zs.length) (by omega)]
      have : k % zs.length = (k - zs.length) % zs.length := by
        rw [Nat.mod_eq_sub_mod (by omega)]
      rw [this]
theorem zeros_eq {z : Value} {zs : List S} (hz : z.cells = (encs zs).toArray) (n : Nat) (h0 : zs.length ≠ 0) : ((Array.range (n * zs.length)).map fun i => z.cells[i % z.cells.size]!) = (encs (replicate n zs)).toArray := by
  apply Array.ext
  · simp [encs, replicate_length]
  · intro i h1 h2
    simp only [Array.size_map, Array.size_range] at h1
    have hlt : i % zs.length < zs.length := Nat.mod_lt _ (by omega)
    have e1 := encs_replicate_get n zs i h1
    rw [List.getElem?_eq_getElem (by simpa [encs, replicate_length] using h1)] at e1
    simp only [Array.getElem_map, Array.getElem_range, hz, List.size_toArray, encs_length]
    simp only [List.getElem_toArray] at *
    rw [List.getElem?_eq_getElem (by rw [encs_length]; exact hlt)] at e1
    have e2 : (encs (replicate n zs))[i]'(by simpa [encs, replicate_length] using h1) = (encs zs)[i % zs.length]'(by rw [encs_length]; exact hlt) := by simpa using e1
    rw [e2]
    simp [encs_length, hlt]
theorem elems_fill (b : Base X φ σ a w) {n : Nat} : ∀ {gs : List (Nat × Operand)} {ms : List (Nat × Opd)} {ps : List (Nat × List S)},
    okElems X.ρ gs ms = true → all? (fun p : Nat × Opd => (cellsOf (ev σ.env p.2)).bind fun cs => if cs.length = n then some (p.1 * n, cs) else none) ms = some ps →
    okParts X.ρ (fun i => some (i * n, n)) gs (ms.map fun p => (p.1 * n, n, p.2)) = true ∧
      all? (fun p : Nat × Nat × Opd => (cellsOf (ev σ.env p.2.2)).bind fun cs => if cs.length = p.2.1 then some (p.1, cs) else none) (ms.map fun p => (p.1 * n, n, p.2)) = some ps
  | [], [], ps, _, h => ⟨rfl, h⟩
  | (i, x) :: gs, (j, y) :: ms, ps, hok, h => by
    simp only [okElems, Bool.and_eq_true] at hok
    obtain ⟨⟨h1, h2⟩, h3⟩ := hok
    have e := eq_of_beq h2
    subst e
    simp only [all?] at h
    rw [obs] at h
    obtain ⟨q, hq, hr⟩ := h
    rw [Option.map_eq_some_iff] at hr
    obtain ⟨ps', hps, rfl⟩ := hr
    obtain ⟨g1, g2⟩ := elems_fill b h3 hps
    refine ⟨by simp [okParts, h1, g1], ?_⟩
    simp only [List.map_cons, all?, g2]
    rw [hq]
    rfl
  | [], _ :: _, _, hok, _ => by simp [okElems] at hok
  | _ :: _, [], _, hok, _ => by simp [okElems] at hok
theorem fill_length : ∀ {ps : List (Nat × List S)} {zs cs : List S}, fill zs ps = some cs → cs.length = zs.length
  | [], zs, cs, h => by cases h; rfl
  | (off, c) :: ps, zs, cs, h => by
    simp only [fill] at h
    split at h
    · rw [fill_length h]
      simp
      omega
    · cases h
theorem run_newVar (t : TypeId) (v : Value) (w : World) : (newVar t v).run P w = .ok ⟨w.heap.size, 0, none⟩ (w.alloc (.cells v.cells t)) := rfl
theorem run_newRow (t : TypeId) (c : Array Value) (w : World) : (newRow t c).run P w = .ok ⟨w.heap.size, 0, none⟩ (w.alloc (.cells c t)) := rfl
theorem alloc_sim {T : TypeId} {zs : List S} {d : Nat} (h : zeroIs P T zs = true) :
    ∃ u w', (Instr.alloc T true (.tuple #[])).run P w = .ok u w' ∧ ∃ φ', Does X σ { v := .a (.ptr d 0), kills := [d], puts := [(d, .flat false zs)] } φ φ' w w' u := by
  obtain ⟨z, z1, z2, _⟩ := zeroIs_run h
  have hm := More.alloc w (.cells (encs zs ++ []).toArray T)
  have e : z.cells = (encs zs ++ []).toArray := by rw [z2]; simp
  refine ⟨_, _, (by simp only [Instr.alloc, Sem.run_bind, z1 w, Result.andThen_ok, run_newVar, e, Sem.run_pure]; rfl), _, Does.fresh (hm := hm) rfl (flat_new hm) ?_⟩
  exact ⟨(w.heap.size, 0), by simp [upd], rfl⟩
theorem box_sim (hI : ∀ b, X.I b → b < w.heap.size) {T : TypeId} {d n : Nat} {x : V} {u : Value} {v : V} {ps : List (Nat × Ob)} (hv : VRel X φ w x u)
    (h : boxV d n x = some (v, ps)) :
    ∃ z w', (Instr.box T u).run P w = .ok z w' ∧ ∃ φ', Does X σ { v := v, kills := ps.map (·.1), puts := ps } φ φ' w w' z := by
  unfold boxV at h
  split at h
  · rename_i cs hc
    split at h
    · simp only [Option.some.injEq, Prod.mk.injEq] at h
      obtain ⟨rfl, rfl⟩ := h
      have hm := More.alloc w (.cells (encs cs ++ []).toArray T)
      have e : u.cells = (encs cs ++ []).toArray := by rw [cellsOf_rel hv hc]; simp
      refine ⟨_, _, (by simp only [Instr.box, Sem.run_bind, run_newVar, e, Result.andThen_ok, Sem.run_pure]; rfl), _, Does.fresh (hm := hm) rfl (flat_new hm) ?_⟩
      exact ⟨(w.heap.size, 0), by simp [upd], rfl⟩
    · cases h
  · rename_i hc
    split at h
    · cases h
    · cases h
    · cases h
    · rename_i h1 h2 h3
      split at h
      · simp only [Option.some.injEq, Prod.mk.injEq] at h
        obtain ⟨rfl, rfl⟩ := h
        obtain ⟨k1, k2⟩ := cells_of_ref hv hc (fun vs e => h1 vs e) (fun e => h2 e) (fun e => h3 e)
        have hm := More.alloc w (.cells #[u] T)
        refine ⟨_, _, (by simp only [Instr.box, Sem.run_bind, run_newVar, k1, Result.andThen_ok, Sem.run_pure]; rfl), _, Does.fresh (hm := hm) rfl ?_ ?_⟩
        · refine ⟨_, _, _, _, blk_new hm, rfl, k2, ?_⟩
          exact VRel.kill (ids := [d]) (fun o ho => by
            have : o ≠ d := by simpa using ho
            simp [upd, this]) hm.shape (fun b hb => hm.same b (hI b hb)) hv
        · exact ⟨(w.heap.size, 0), by simp [upd], rfl⟩
      · cases h
theorem bsl_sim (b : Base X φ σ a w) {T e : TypeId} {d len es : Nat} {zs cs : List S} {gs : Array (Nat × Operand)} {ms : List (Nat × Opd)} {ps : List (Nat × List S)}
    (he : sliceOf P T = some e) (hz : zeroIs P e zs = true) (hl : zs.length = es) (h0 : es ≠ 0) (hb : len * es ≤ 16777216) (hok : okElems X.ρ gs.toList ms = true)
    (h1 : all? (fun p : Nat × Opd => (cellsOf (ev σ.env p.2)).bind fun cs => if cs.length = es then some (p.1 * es, cs) else none) ms = some ps) (h2 : fill (replicate len zs) ps = some cs) :
    ∃ u w', (Instr.buildSlice T len (gs.map fun (i, x) => (i, a.eval x))).run P w = .ok u w' ∧ ∃ φ', Does X σ { v := .a (.sl d 0 len es), kills := [d], puts := [(d, .flat false cs)] } φ φ' w w' u := by
  obtain ⟨z, z1, z2, z3⟩ := zeroIs_run hz
  rw [hl] at z3
  obtain ⟨g1, g2⟩ := elems_fill b hok h1
  have hf := fill_sim b g1 g2 h2
  have hcs := fill_length h2
  rw [replicate_length, hl] at hcs
  have hm := More.alloc w (.cells (encs cs ++ []).toArray e)
  have hgs : (gs.map fun (x : Nat × Operand) => match x with | (i, x) => (i, a.eval x)).toList = gs.toList.map fun p => (p.1, a.eval p.2) := by simp
  have hzero : ((Array.range (len * es)).map fun i => z.cells[i % z.cells.size]!) = (encs (replicate len zs)).toArray := by
    have := zeros_eq z2 len (by omega)
    rwa [hl] at this
  refine ⟨.slice (some ⟨w.heap.size, 0, none⟩) len len, w.alloc (.cells (encs cs ++ []).toArray e), ?_, _, Does.fresh (hm := hm) rfl (flat_new hm) ?_⟩
  · have hnb : ¬ (16777216 < len * es) := by omega
    simp only [Instr.buildSlice, Sem.run_bind, run_underlying (sliceOf_eq he), Result.andThen_ok, run_sizeOf' z3 w]
    by_cases hn : len * es = 0
    · have hcs0 : cs = [] := List.eq_nil_of_length_eq_zero (by omega)
      have hl0 : len = 0 := by
        rcases Nat.mul_eq_zero.1 hn with h | h
        · exact h
        · exact (h0 h).elim
      subst hl0
      have hf' : Instr.fill (fun i => some (i * es, es)) #[] (gs.toList.map fun p => (p.1, a.eval p.2)) = some #[] := by
        have := hf
        simp only [replicate, List.replicate_zero, List.flatten_nil, encs, List.map_nil, hcs0] at this
        exact this
      subst hcs0
      have hr : (Array.map (fun x : Nat => (default : Value)) (Array.range 0)) = #[] := by simp
      simp [hgs, hf', newRow, encs, hr]
    · simp only [hnb, hn, if_false, Sem.run_bind, z1 w, Result.andThen_ok, Sem.run_pure, hzero, hgs, hf, run_newRow, List.append_nil, show (2 : Nat) ^ 24 = 16777216 from rfl, gt_iff_lt]
  · refine ⟨(w.heap.size, 0), 0, len, by simp [upd], rfl, Nat.le_refl _, fun _ => rfl, room_new hm ?_⟩
    simp [encs, hcs]
theorem partV_cells {v : V} {x : A} {u : Value} (h : partV v = some x) (hv : VRel X φ w v u) : u.cells = #[u] ∧ ARel X φ w x u := by
  unfold partV at h
  split at h
  · cases h
  · cases h
  · rename_i y h1 h2
    cases h
    refine ⟨?_, hv⟩
    cases x with
    | d d =>
      have hv : DRel _ _ _ _ _ := hv
      cases hv <;> first | rfl | (rename_i s; cases s <;> rfl) | (exact (h1 _ rfl).elim)
    | ptr o off => obtain ⟨l, _, rfl⟩ := hv; rfl
    | sl o off n es => obtain ⟨l, ad, cap, _, rfl, _⟩ := hv; rfl
    | dptr cs off => obtain ⟨b, o, _, rfl, _⟩ := hv; rfl
    | dptrd ds i => obtain ⟨b, o, vs, _, rfl, _⟩ := hv; rfl
    | mp o => obtain ⟨l, _, rfl⟩ := hv; rfl
    | dead => exact (h2 rfl).elim
  · cases h
theorem fill_row (b : Base X φ σ a w) : ∀ {gs : List (Nat × Operand)} {ms : List (Nat × Opd)} {xs : List A} {k : Nat} {done rest : List Value},
    okElems X.ρ gs ms = true → all? (fun p : Nat × Opd => partV (ev σ.env p.2)) ms = some xs → inOrder k ms = true → done.length = k → rest.length = ms.length →
    ∃ vs, All2 (ARel X φ w) xs vs ∧ Instr.fill (fun i => some (i * 1, 1)) (done ++ rest).toArray (gs.map fun p => (p.1, a.eval p.2)) = some (done ++ vs).toArray
  | [], [], xs, k, done, rest, _, h, _, _, hr => by
    cases h
    cases rest with
    | nil => exact ⟨[], .nil, by simp [Instr.fill]⟩
    | cons v r => simp at hr
  | (i, x) :: gs, (j, y) :: ms, xs, k, done, rest, hok, h, ho, hd, hr => by
    simp only [okElems, Bool.and_eq_true] at hok
    obtain ⟨⟨h1, h2⟩, h3⟩ := hok
    have e := eq_of_beq h2
    subst e
    simp only [all?] at h
    rw [obs] at h
    obtain ⟨x1, hx, h⟩ := h
    rw [Option.map_eq_some_iff] at h
    obtain ⟨xs', hxs, rfl⟩ := h
    simp only [inOrder, Bool.and_eq_true] at ho
    have e := eq_of_beq ho.1
    subst e
    obtain ⟨g1, g2⟩ := partV_cells hx (okX_sim b h1)
    cases rest with
    | nil => simp at hr
    | cons z rest =>
      obtain ⟨vs, v1, v2⟩ := fill_row b (done := done ++ [a.eval x]) (rest := rest) h3 hxs ho.2 (by simp [hd]) (by simpa using hr)
      refine ⟨a.eval x :: vs, .cons g2 v1, ?_⟩
      simp only [List.map_cons, Instr.fill]
      have hf := fill_one i (a.eval x) [a.eval x] (done ++ z :: rest) (by rw [g1]) (by simp; omega)
      have e1 : (a.eval x).cells.size = 1 := by rw [g1]; rfl
      have e2 : (done ++ z :: rest).take i ++ [a.eval x] ++ (done ++ z :: rest).drop (i + [a.eval x].length) = done ++ [a.eval x] ++ rest := by
        subst hd
        simp
      rw [e2] at hf
      simp only [Nat.mul_one, e1, hf]
      have e3 : done ++ a.eval x :: vs = done ++ [a.eval x] ++ vs := by simp
      rw [e3, ← v2]
      simp
      intro hh
      omega
  | [], _ :: _, _, _, _, _, hok, _, _, _, _ => by simp [okElems] at hok
  | _ :: _, [], _, _, _, _, hok, _, _, _, _ => by simp [okElems] at hok
theorem bslr_sim (b : Base X φ σ a w) (hI : ∀ b, X.I b → b < w.heap.size) {T e : TypeId} {d len : Nat} {gs : Array (Nat × Operand)} {ms : List (Nat × Opd)} {xs : List A}
    (he : sliceOf P T = some e) (hz : zeroIs P e [.nils] = true) (hb : len ≤ 16777216) (hok : okElems X.ρ gs.toList ms = true) (hl : ms.length = len) (ho : inOrder 0 ms = true)
    (h1 : all? (fun p : Nat × Opd => partV (ev σ.env p.2)) ms = some xs) :
    ∃ u w', (Instr.buildSlice T len (gs.map fun (i, x) => (i, a.eval x))).run P w = .ok u w' ∧ ∃ φ', Does X σ { v := .a (.sl d 0 len 1), kills := [d], puts := [(d, .row (xs.map fun x => if deadA [d] x then .dead else x))] } φ φ' w w' u := by
  obtain ⟨z, z1, z2, z3⟩ := zeroIs_run hz
  obtain ⟨vs, v1, v2⟩ := fill_row b (done := []) (rest := encs (replicate len [S.nils])) hok h1 ho rfl (by rw [encs_length, replicate_length, hl]; simp)
  have hlen : ∀ {ms : List (Nat × Opd)} {xs : List A}, all? (fun p : Nat × Opd => partV (ev σ.env p.2)) ms = some xs → xs.length = ms.length := by
    intro ms
    induction ms with
    | nil => intro xs h; cases h; rfl
    | cons m ms ih =>
      intro xs h
      simp only [all?] at h
      rw [obs] at h
      obtain ⟨x1, hx, h⟩ := h
      rw [Option.map_eq_some_iff] at h
      obtain ⟨xs', hxs, rfl⟩ := h
      simp [ih hxs]
  have hxl := hlen h1
  have hvl : vs.length = len := by rw [← v1.1, hxl, hl]
  simp only [List.nil_append] at v2
  have hm := More.alloc w (.cells vs.toArray e)
  have hgs : (gs.map fun (x : Nat × Operand) => match x with | (i, x) => (i, a.eval x)).toList = gs.toList.map fun p => (p.1, a.eval p.2) := by simp
  have hzero : ((Array.range (len * 1)).map fun i => z.cells[i % z.cells.size]!) = (encs (replicate len [S.nils])).toArray := by
    have := zeros_eq z2 len (by simp)
    simpa using this
  refine ⟨.slice (some ⟨w.heap.size, 0, none⟩) len len, w.alloc (.cells vs.toArray e), ?_, _, Does.fresh (hm := hm) rfl ?_ ?_⟩
  · have hnb : ¬ (16777216 < len * 1) := by omega
    simp only [Instr.buildSlice, Sem.run_bind, run_underlying (sliceOf_eq he), Result.andThen_ok, run_sizeOf' z3 w]
    by_cases hn : len * 1 = 0
    · have hl0 : len = 0 := by omega
      subst hl0
      have hvs0 : vs = [] := List.eq_nil_of_length_eq_zero hvl
      subst hvs0
      have hf' : Instr.fill (fun i => some (i * 1, 1)) #[] (gs.toList.map fun p => (p.1, a.eval p.2)) = some #[] := by
        have := v2
        simp only [replicate, List.replicate_zero, List.flatten_nil, encs, List.map_nil] at this
        exact this
      have hr : (Array.map (fun x : Nat => (default : Value)) (Array.range 0)) = #[] := by simp
      simp only [Nat.mul_one] at hf'
      simp [hgs, hf', newRow, encs, hr]
    · simp only [List.length_cons, List.length_nil, Nat.zero_add, hnb, hn, if_false, Sem.run_bind, z1 w, Result.andThen_ok, Sem.run_pure, hzero, hgs, v2, run_newRow, List.append_nil, show (2 : Nat) ^ 24 = 16777216 from rfl, gt_iff_lt]
  · refine ⟨vs.toArray, e, (0, 0), vs, blk_new hm, by simp [hvl, hxl, hl], fun j v hj => ?_, by simp [v1.1], fun i x v hx hv => ?_⟩
    · rw [Nat.zero_add, cell_new hm]
      rw [List.getElem?_toArray]
      exact hj
    · simp only [List.getElem?_map, Option.map_eq_some_iff] at hx
      obtain ⟨y, hy, rfl⟩ := hx
      cases hd : deadA [d] y with
      | true => trivial
      | false => exact ARel.kill (ids := [d]) (fun o ho => by
            have : o ≠ d := by simpa using ho
            simp [upd, this]) hm.shape (fun b hb => hm.same b (hI b hb)) hd (v1.2 i y v hy hv)
  · refine ⟨(w.heap.size, 0), 0, len, by simp [upd], rfl, Nat.le_refl _, fun _ => rfl, room_new hm ?_⟩
    simp [hvl]
theorem mks_sim {T e : TypeId} {d es : Nat} {l : Int} {k k' : IntKind} {zs : List S} (he : sliceOf P T = some e) (hz : zeroIs P e zs = true) (hl : zs.length = es) (h0 : es ≠ 0) (hb : bytesOk P e es = true)
    (hl0 : 0 ≤ l) (hbig : l * (es + 1) ≤ big) :
    ∃ u w', (Instr.makeSlice T (.int k l) (.int k' l)).run P w = .ok u w' ∧ ∃ φ', Does X σ { v := .a (.sl d 0 l.toNat es), kills := [d], puts := [(d, .flat false (replicate l.toNat zs))] } φ φ' w w' u := by
  obtain ⟨z, z1, z2, z3⟩ := zeroIs_run hz
  rw [hl] at z3
  obtain ⟨n, rfl⟩ := Int.eq_ofNat_of_zero_le hl0
  have hm := More.alloc w (.cells (encs (replicate n zs) ++ []).toArray e)
  have hbytes : ∃ i, P.info? e = some i ∧ i.bytes ≤ 16 * (es + 1) := by
    unfold bytesOk at hb
    split at hb
    · rename_i i hi; exact ⟨i, hi, by simpa using hb⟩
    · cases hb
  obtain ⟨i, hi, hib⟩ := hbytes
  have hn : n * (es + 1) ≤ big := by
    have e1 : ((n * (es + 1) : Nat) : Int) = (n : Int) * ((es : Int) + 1) := by rw [Int.natCast_mul]; rfl
    have : ((n * (es + 1) : Nat) : Int) ≤ (big : Int) := by rw [e1]; exact hbig
    omega
  have hn1 : n ≤ big := Nat.le_trans (Nat.le_mul_of_pos_right n (by omega)) hn
  have hbn : i.bytes * n ≤ 17179869184 := by
    have h1 := Nat.mul_le_mul_right n hib
    have h2 : 16 * (es + 1) * n = 16 * (n * (es + 1)) := by
      rw [Nat.mul_assoc, Nat.mul_comm (es + 1) n]
    simp only [big] at hn
    omega
  refine ⟨.slice (some ⟨w.heap.size, 0, none⟩) n n, w.alloc (.cells (encs (replicate n zs) ++ []).toArray e), ?_, _, Does.fresh (hm := hm) rfl (flat_new hm) ?_⟩
  · have hz' : ((Array.range (n * es)).map fun i => z.cells[i % z.cells.size]!) = (encs (replicate n zs)).toArray := by
      have := zeros_eq z2 n (by omega)
      rwa [hl] at this
    obtain ⟨zv, hzv⟩ : ∃ zv, i.zero = some zv := by
      unfold zeroIs at hz
      rw [hi] at hz
      simp only [Bool.and_eq_true] at hz
      cases hq : i.zero with
      | none => rw [hq] at hz; simp at hz
      | some zv => exact ⟨zv, rfl⟩
    have hsz : i.size = es := by
      have := sizeIs_eq z3
      rw [hi] at this
      simpa using this
    have hz2 : zv = z := by
      have := z1 w
      simp [zeroValue, typeInfo, hi, hzv] at this
      exact this
    subst hz2
    have hbi : (i.bytes : Int) * (n : Int) ≤ 281474976710656 := by
      rw [← Int.natCast_mul]; omega
    have hr := run_make (P := P) w T e i zv (sliceOf_eq he) hi hzv k k' n n (by omega) (Int.le_refl _) hbi (by simp only [big] at hn1; omega)
    simp only [Int.toNat_natCast, hsz, madeCells, hz'] at hr
    rw [hr]
    simp
  · refine ⟨(w.heap.size, 0), 0, n, by simp [upd], rfl, Nat.le_refl _, fun _ => rfl, room_new hm ?_⟩
    simp [encs, replicate_length, hl]
theorem mkm_does (d : Nat) (ks : List SK) : ∃ φ', Does X σ { v := .a (.mp d), kills := [(d, Ob.map ks [])].map (·.1), puts := [(d, .map ks [])] } φ φ' w (w.alloc (.map #[] 0)) (.map (some w.heap.size)) := by
  have hm := More.alloc w (.map #[] 0)
  refine ⟨_, Does.fresh hm rfl ?_ ?_⟩
  · exact ⟨#[], 0, hm.new, rfl, fun p hp => (by cases hp), fun j e he => (by simp at he), rfl⟩
  · exact ⟨(w.heap.size, 0), by simp [upd], rfl⟩
theorem makes_sim (b : Base X φ σ a w) (hI : ∀ b, X.I b → b < w.heap.size) {g : Go.Oper} {m : Op} {d : Nat} {v : V} {ps : List (Nat × Ob)} (hok : okO P X.ρ g.op m = true) (h : makes σ d m = some (v, ps)) :
    ∃ u w', (execOp a.eval g).run P w = .ok (.value u) w' ∧ ∃ φ', Does X σ { v := v, kills := ps.map (·.1), puts := ps } φ φ' w w' u := by
  obtain ⟨gd, gop, gt, gp, ga, gg⟩ := g
  simp only at hok
  have key : ∀ {s : Sem Value}, (∃ u w', s.run P w = .ok u w' ∧ ∃ φ', Does X σ { v := v, kills := ps.map (·.1), puts := ps } φ φ' w w' u) →
      ∃ u w', ((do pure (Next.value (← s))) : Sem Next).run P w = .ok (.value u) w' ∧ ∃ φ', Does X σ { v := v, kills := ps.map (·.1), puts := ps } φ φ' w w' u :=
    fun ⟨u, w', h1, h2⟩ => ⟨u, w', run_v h1, h2⟩
  unfold okO at hok
  split at hok <;> first | (simp [makes] at h; done) | (cases hok; done) | skip
  · -- alloc
    simp only [Bool.and_eq_true] at hok
    simp only [makes, Option.some.injEq, Prod.mk.injEq] at h
    obtain ⟨rfl, rfl⟩ := h
    exact key (alloc_sim hok.1)
  · exact key (box_sim hI (okX_sim b hok) h)
  · split at hok
    · rename_i e he
      simp only [Bool.and_eq_true] at hok
      obtain ⟨⟨⟨⟨h1, h2⟩, h3⟩, h4⟩, h5⟩ := hok
      have e3 := eq_of_beq h3
      have e2 := eq_of_beq h2
      subst e3
      simp only [makes] at h
      split at h
      · rename_i hc
        rw [obs] at h
        obtain ⟨qs, h6, h⟩ := h
        rw [Option.map_eq_some_iff] at h
        obtain ⟨cs, h7, h⟩ := h
        simp only [Prod.mk.injEq] at h
        obtain ⟨rfl, rfl⟩ := h
        exact key (bsl_sim b he h1 e2 (by simpa using h5) hc.2 h4 h6 h7)
      · cases h
    · cases hok
  · split at hok
    · rename_i e he
      simp only [Bool.and_eq_true] at hok
      obtain ⟨⟨h1, h3⟩, h4⟩ := hok
      have e3 := eq_of_beq h3
      subst e3
      simp only [makes] at h
      split at h
      · rename_i hc
        rw [Option.map_eq_some_iff] at h
        obtain ⟨xs, h6, h⟩ := h
        simp only [Prod.mk.injEq] at h
        obtain ⟨rfl, rfl⟩ := h
        exact key (bslr_sim b hI he h1 hc.2.1 h4 hc.1 hc.2.2 h6)
      · cases h
    · cases hok
  · simp only [Bool.and_eq_true] at hok
    obtain ⟨⟨h1, h2⟩, h3⟩ := hok
    split at h3
    · rename_i e he
      simp only [Bool.and_eq_true] at h3
      obtain ⟨⟨⟨h4, h5⟩, h6⟩, h7⟩ := h3
      simp only [makes] at h
      split at h
      · rename_i l c g1 g2
        split at h
        · rename_i hc
          obtain ⟨c1, rfl, c3, c4⟩ := hc
          simp only [Option.some.injEq, Prod.mk.injEq] at h
          obtain ⟨rfl, rfl⟩ := h
          obtain ⟨k, e1⟩ := asI_rel (okX_sim b h1) g1
          obtain ⟨k', e2⟩ := asI_rel (okX_sim b h2) g2
          have := mks_sim (P := P) (X := X) (σ := σ) (φ := φ) (w := w) (d := d) (k := k) (k' := k') he h4 (eq_of_beq h5) (by simpa using h6) h7 c1 c3
          rw [← e1, ← e2] at this
          exact key this
        · cases h
      · cases h
    · cases h3
  · -- a map
    simp only [makes, Option.some.injEq, Prod.mk.injEq] at h
    obtain ⟨rfl, rfl⟩ := h
    exact key ⟨_, _, rfl, mkm_does _ _⟩
  · simp only [Bool.and_eq_true] at hok
    obtain ⟨h1, h2⟩ := hok
    simp only [makes, Option.some.injEq, Prod.mk.injEq] at h
    obtain ⟨rfl, rfl⟩ := h
    split at h1
    · rename_i k n
      refine key ⟨.map (some w.heap.size), w.alloc (.map #[] 0), ?_, mkm_does _ _⟩
      cases hm : mapTys P _ with
      | none => rw [hm] at h2; cases h2
      | some p =>
        unfold mapTys at hm
        split at hm
        · rename_i k' e' hu
          simp [Instr.makeMap, run_underlying hu, asInt, asIntOf, Act.eval]
        · cases hm
    · cases h1
end
end Go.DM
