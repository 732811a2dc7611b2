/- A region that draws its order. -/
import Derived.Test.YtimkdadlmolnaaaGreatDoorK402SimM
import Derived.LoopN
set_option linter.unusedSectionVars false
set_option linter.unusedSimpArgs false
set_option linter.unusedVariables false
namespace Go.DM
variable [Tok]
def bindsAny (e : Edge) : Bool := Go.Region.binds .any e
def befOk (ms : List Oper) (g : Go.Oper) (m : Oper) : Bool :=
  m.bef.all fun a => g.after.any fun e => bindsAny e && (e.on == a || (match ms[e.on]? with | some m' => m'.bef.contains a | none => false))
def aftOk (g : Go.Oper) (j : Nat) : Bool := g.after.all fun e => !bindsAny e || decide (e.on < j)
def okDraw1 (ms : List Oper) : Nat → List Go.Oper → List Oper → Bool
  | _, [], [] => true
  | j, g :: gs, m :: ms' => befOk ms g m && aftOk g j && okDraw1 ms (j + 1) gs ms'
  | _, _, _ => false
def okPair (x y : Oper) (i : Nat) : Bool := y.bef.contains i || indep x y || entryPair x y || blindPair x y
def okPairs1 (x : Oper) (i : Nat) : List Oper → Bool
  | [] => true
  | y :: ys => okPair x y i && okPairs1 x i ys
def okPairs : Nat → List Oper → Bool
  | _, [] => true
  | i, x :: xs => okPairs1 x i xs && okPairs (i + 1) xs
def okDraw (gs : List Go.Oper) (ms : List Oper) : Bool := okDraw1 ms 0 gs ms && okPairs 0 ms
theorem okDraw1_get {all : List Oper} : ∀ {gs : List Go.Oper} {ms : List Oper} {k : Nat}, okDraw1 all k gs ms = true → ∀ (j : Nat) (g : Go.Oper) (m : Oper), gs[j]? = some g → ms[j]? = some m → befOk all g m = true ∧ aftOk g (k + j) = true
  | [], [], k, _, j, g, m, h, _ => by simp at h
  | g :: gs, m :: ms, k, h, j, g', m', hg, hm => by
    simp only [okDraw1, Bool.and_eq_true] at h
    cases j with
    | zero => simp at hg hm; subst hg; subst hm; exact h.1
    | succ j =>
      have := okDraw1_get h.2 j g' m' (by simpa using hg) (by simpa using hm)
      rwa [show k + 1 + j = k + (j + 1) by omega] at this
  | [], _ :: _, _, h, _, _, _, _, _ => by simp [okDraw1] at h
  | _ :: _, [], _, h, _, _, _, _, _ => by simp [okDraw1] at h
theorem okPairs1_get {x : Oper} {i : Nat} : ∀ {ys : List Oper}, okPairs1 x i ys = true → ∀ y ∈ ys, okPair x y i = true
  | [], _, y, h => by cases h
  | z :: zs, h, y, hy => by
    simp only [okPairs1, Bool.and_eq_true] at h
    rcases List.mem_cons.1 hy with rfl | hy
    · exact h.1
    · exact okPairs1_get h.2 y hy
theorem okPairs_get : ∀ {xs : List Oper} {k : Nat}, okPairs k xs = true → ∀ (i j : Nat) (x y : Oper), i < j → xs[i]? = some x → xs[j]? = some y → okPair x y (k + i) = true
  | [], k, _, i, j, x, y, _, h, _ => by simp at h
  | z :: zs, k, h, i, j, x, y, hij, hx, hy => by
    simp only [okPairs, Bool.and_eq_true] at h
    obtain ⟨j', rfl⟩ : ∃ j', j = j' + 1 := ⟨j - 1, by omega⟩
    cases i with
    | zero =>
      simp at hx; subst hx
      exact okPairs1_get h.1 y (List.mem_of_getElem? (by simpa using hy))
    | succ i =>
      have := okPairs_get h.2 i j' x y (by omega) (by simpa using hx) (by simpa using hy)
      rwa [show k + 1 + i = k + (i + 1) by omega] at this
section
variable {P : Program} {X : Cx} {φ0 : Nat → Option Loc} {w0 w : World} {σ σ' : St} {a : Act} {n : Nat} {M : List Reg}
theorem Holds.drawn (h : Holds X M φ0 w0 n σ a w) (k : Nat) : Holds X M φ0 w0 n σ a { w with drawn := k } := by
  obtain ⟨φ, h1, h2, h3, h4, h5⟩ := h
  refine ⟨φ, ⟨fun t => ?_, fun o ob ho => ?_, h1.inj, h1.own, h1.lt, h1.low, X.κ.keeps w _ h1.know.1 (Nat.le_refl _) (fun _ _ => rfl), h1.know.2⟩, ⟨h2.os, h2.tape, h2.output, h2.size, h2.shape, h2.same, h2.out⟩, h3, h4, h5⟩
  · exact VRel.keep (w := w) (w' := { w with drawn := k }) (fun _ => rfl) (fun _ c _ _ h => ⟨c, h, rfl⟩) (fun _ _ => rfl) (h1.env t)
  · obtain ⟨l, e1, e2⟩ := h1.objs o ob ho
    refine ⟨l, e1, ?_⟩
    cases ob with
    | flat p cs => exact e2
    | var x =>
      obtain ⟨c, T, fz, u, g1, g2, g3, g4⟩ := e2
      exact ⟨c, T, fz, u, g1, g2, g3, VRel.keep (w := w) (w' := { w with drawn := k }) (fun _ => rfl) (fun _ c _ _ h => ⟨c, h, rfl⟩) (fun _ _ => rfl) g4⟩
    | map ks es => exact e2
    | row xs =>
      obtain ⟨c, T, fz, vs, g1, g2, g3, g4⟩ := e2
      exact ⟨c, T, fz, vs, g1, g2, g3, g4.mono fun x v _ h => VRel.keep (x := .a x) (w := w) (w' := { w with drawn := k }) (fun _ => rfl) (fun _ c _ _ h => ⟨c, h, rfl⟩) (fun _ _ => rfl) h⟩
structure Rest (ms : List Oper) (listed : Array Bool) (R : List (Oper × Nat)) : Prop where
  mem : ∀ p ∈ R, ms[p.2]? = some p.1
  sorted : R.Pairwise fun p q => p.2 < q.2
  size : listed.size = ms.length
  listed : ∀ i, i < ms.length → (listed.getD i true = false ↔ ∃ p ∈ R, p.2 = i)
  closed : ∀ j m, ms[j]? = some m → (∀ p ∈ R, p.2 ≠ j) → ∀ b ∈ m.bef, ∀ p ∈ R, p.2 ≠ b
theorem getD_set (l : Array Bool) (i j : Nat) (d : Bool) (h : j < l.size) : (l.setIfInBounds i true).getD j d = if i = j then true else l.getD j d := by
  simp only [Array.getD_eq_getD_getElem?, Array.getElem?_setIfInBounds]
  by_cases e : i = j
  · subst e; simp [h]
  · simp [e]
theorem any_wp {Γ : Nat → Option Fn} {call : Calls} {gops : Array Go.Oper} {ms : List Oper} {Q : Exit → Act → World → Prop} (hB : Bodies P X.ρ Γ) (hS : Sound P X.ρ X.κ call) (hM : Apart M w0)
    (hok : okOpers P X.ρ n gops.toList ms = true) (hdr : okDraw gops.toList ms = true) (hQ : ∀ a' w', Holds X M φ0 w0 n σ' a' w' → Q .normal a' w') :
    ∀ (fuel : Nat) {listed : Array Bool} {R : List (Oper × Nat)} {σ : St} {a : Act} {w : World}, R.length = fuel → Rest ms listed R → Holds X M φ0 w0 n σ a w → run (stepH Γ call (dstsOf ms)) (R.map (·.1)) σ = some σ' →
      wpAny P .any gops Q fuel listed a w
  | 0, listed, R, σ, a, w, hl, hR, h, hr => by
    have : R = [] := List.eq_nil_of_length_eq_zero hl
    subst this
    cases hr
    refine ⟨?_, hQ _ _ h⟩
    have hlen : gops.size = ms.length := by have := (okOpers_get hok).1; simpa using this
    simp only [Region.ready, List.filter_eq_nil_iff, List.mem_range]
    intro i hi hc
    simp only [Bool.and_eq_true, Bool.not_eq_true'] at hc
    obtain ⟨p, hp, _⟩ := (hR.listed i (by omega)).1 hc.1
    cases hp
  | fuel + 1, listed, R, σ, a, w, hl, hR, h, hr => by
    obtain ⟨hlen0, hget⟩ := okOpers_get hok
    have hlen : gops.size = ms.length := by simpa using hlen0
    simp only [okDraw, Bool.and_eq_true] at hdr
    obtain ⟨hd1, hd2⟩ := hdr
    have hgm : ∀ {i : Nat} {m : Oper}, ms[i]? = some m → ∃ g, gops[i]? = some g ∧ okOper P X.ρ n g m = true ∧ befOk ms g m = true ∧ aftOk g i = true := by
      intro i m hm
      have hi : i < gops.size := by have := (List.getElem?_eq_some_iff.1 hm).1; omega
      refine ⟨gops[i], by simp [hi], ?_⟩
      have hg : gops.toList[i]? = some gops[i] := by simp [hi]
      have := okDraw1_get hd1 i _ m hg hm
      rw [Nat.zero_add] at this
      exact ⟨hget i _ m hg hm, this⟩
    have hnot : ∀ i, i < ms.length → (listed.getD i true = true ↔ ∀ p ∈ R, p.2 ≠ i) := by
      intro i hi
      have := hR.listed i hi
      constructor
      · intro h1 p hp e
        rw [this.2 ⟨p, hp, e⟩] at h1; cases h1
      · intro h1
        cases hc : listed.getD i true with
        | true => rfl
        | false =>
          obtain ⟨p, hp, e⟩ := this.1 hc
          exact (h1 p hp e).elim
    have hDD : ∀ i, i < ms.length → listed.getD i false = listed.getD i true := by
      intro i hi
      simp only [Array.getD_eq_getD_getElem?]
      rw [← hR.size] at hi
      simp [hi]
    refine ⟨fun hnil => ?_, fun i hi => ?_⟩
    · exfalso
      cases R with
      | nil => simp at hl
      | cons p R =>
        have hm := hR.mem p (List.mem_cons_self ..)
        obtain ⟨g, hg, _, _, haft⟩ := hgm hm
        have hplt : p.2 < ms.length := (List.getElem?_eq_some_iff.1 hm).1
        have : p.2 ∈ Region.ready .any gops listed := by
          simp only [Region.ready, List.mem_filter, List.mem_range]
          refine ⟨by omega, ?_⟩
          rw [hg]
          simp only [Bool.and_eq_true, Bool.not_eq_true', Option.map_some, Option.getD_some]
          refine ⟨(hR.listed _ hplt).2 ⟨p, List.mem_cons_self .., rfl⟩, ?_⟩
          unfold aftOk at haft
          rw [Array.all_eq_true] at haft ⊢
          intro k hk
          have := haft k hk
          rw [Bool.or_eq_true] at this ⊢
          refine this.imp (fun h => h) fun hlt => ?_
          have hlt := of_decide_eq_true hlt
          rw [hDD _ (by omega)]
          refine (hnot _ (by omega)).2 fun q hq e => ?_
          rcases List.mem_cons.1 hq with rfl | hq
          · omega
          · have := (List.pairwise_cons.1 hR.sorted).1 q hq
            omega
        rw [hnil] at this
        cases this
    · simp only [Region.ready, List.mem_filter, List.mem_range, Bool.and_eq_true, Bool.not_eq_true'] at hi
      obtain ⟨hi1, hi2, hi3⟩ := hi
      obtain ⟨p, hp, rfl⟩ := (hR.listed i (by omega)).1 hi2
      have hm := hR.mem p hp
      obtain ⟨g, hg, hokg, hbef, haft⟩ := hgm hm
      rw [hg] at hi3
      simp only [Option.map_some, Option.getD_some] at hi3
      rw [Array.all_eq_true] at hi3
      -- who stands ahead is done
      have hdone : ∀ b ∈ p.1.bef, ∀ q ∈ R, q.2 ≠ b := by
        intro b hb
        simp only [befOk, List.all_eq_true] at hbef
        have := hbef b hb
        rw [Array.any_eq_true] at this
        obtain ⟨k, hk, hkk⟩ := this
        rw [Bool.and_eq_true] at hkk
        obtain ⟨k1, k2⟩ := hkk
        have h3 := hi3 k hk
        have k1' : Region.binds .any g.after[k] = true := k1
        rw [k1'] at h3
        simp only [Bool.not_true, Bool.false_or] at h3
        have hlt : (g.after[k]).on < ms.length := by
          rw [← hR.size]
          by_cases hc : (g.after[k]).on < listed.size
          · exact hc
          · simp [Array.getD_eq_getD_getElem?, hc] at h3
        rw [hDD _ hlt] at h3
        have h4 := (hnot _ hlt).1 h3
        rw [Bool.or_eq_true] at k2
        rcases k2 with k2 | k2
        · rw [← eq_of_beq k2]; exact h4
        · split at k2
          · rename_i m' hm'
            exact hR.closed _ m' hm' h4 b (by simpa using k2)
          · cases k2
      obtain ⟨R1, R2, rfl⟩ := List.append_of_mem hp
      have hs := hR.sorted
      rw [List.pairwise_append] at hs
      obtain ⟨hs1, hs2, hs3⟩ := hs
      have hs2' := List.pairwise_cons.1 hs2
      have hind : ∀ x ∈ R1.map (·.1), Indep x p.1 ∨ entryPair x p.1 = true ∨ blindPair x p.1 = true := by
        intro x hx
        rw [List.mem_map] at hx
        obtain ⟨q, hq, rfl⟩ := hx
        have hqm := hR.mem q (List.mem_append_left _ hq)
        have hlt := hs3 q hq p (List.mem_cons_self ..)
        have := okPairs_get hd2 q.2 p.2 q.1 p.1 hlt hqm hm
        rw [Nat.zero_add] at this
        simp only [okPair, Bool.or_eq_true] at this
        rcases this with ((h1 | h1) | h1) | h1
        · exact (hdone q.2 (by simpa using h1) q (List.mem_append_left _ hq) rfl).elim
        · exact .inl (indep_spec h1)
        · exact .inr (.inl h1)
        · exact .inr (.inr h1)
      rw [List.map_append, List.map_cons] at hr
      obtain ⟨σ1, e1, e2⟩ := pull hind hr
      rw [← List.map_append] at e2
      have hplt : p.2 < ms.length := (List.getElem?_eq_some_iff.1 hm).1
      have hsub : ∀ q ∈ R1 ++ R2, q ∈ R1 ++ p :: R2 := fun q hq => by
        rcases List.mem_append.1 hq with h | h
        · exact List.mem_append_left _ h
        · exact List.mem_append_right _ (List.mem_cons_of_mem _ h)
      have hne : ∀ q ∈ R1 ++ R2, q.2 ≠ p.2 := fun q hq => by
        rcases List.mem_append.1 hq with h | h
        · have := hs3 q h p (List.mem_cons_self ..); omega
        · have := hs2'.1 q h; omega
      have hR' : Rest ms (listed.setIfInBounds p.2 true) (R1 ++ R2) := by
        refine ⟨fun q hq => hR.mem q (hsub q hq), ?_, by rw [Array.size_setIfInBounds]; exact hR.size, fun j hj => ?_, fun j m' hm' hj b hb q hq => ?_⟩
        · rw [List.pairwise_append]
          exact ⟨hs1, hs2'.2, fun x hx y hy => hs3 x hx y (List.mem_cons_of_mem _ hy)⟩
        · rw [getD_set _ _ _ _ (by rw [hR.size]; exact hj)]
          by_cases e : p.2 = j
          · rw [if_pos e]
            constructor
            · intro h; cases h
            · rintro ⟨q, hq, rfl⟩
              exact (hne q hq e.symm).elim
          · rw [if_neg e, hR.listed j hj]
            constructor
            · rintro ⟨q, hq, rfl⟩
              refine ⟨q, ?_, rfl⟩
              rcases List.mem_append.1 hq with h | h
              · exact List.mem_append_left _ h
              · rcases List.mem_cons.1 h with rfl | h
                · exact (e rfl).elim
                · exact List.mem_append_right _ h
            · rintro ⟨q, hq, rfl⟩
              exact ⟨q, hsub q hq, rfl⟩
        · by_cases e : p.2 = j
          · subst e
            rw [hm] at hm'; cases hm'
            exact hdone b hb q (hsub q hq)
          · refine hR.closed j m' hm' (fun q' hq' => ?_) b hb q (hsub q hq)
            rcases List.mem_append.1 hq' with h | h
            · exact hj q' (List.mem_append_left _ h)
            · rcases List.mem_cons.1 h with rfl | h
              · exact e
              · exact hj q' (List.mem_append_right _ h)
      unfold wpOp
      rw [hg]
      refine stepH_wp hB hS hM (fun j => by simpa using okOpers_dst hok j) hokg h e1 fun a' w' h' => ?_
      refine any_wp hB hS hM hok (by simp only [okDraw, Bool.and_eq_true]; exact ⟨hd1, hd2⟩) hQ fuel ?_ hR' h' e2
      simp only [List.length_append, List.length_cons] at hl ⊢
      omega
theorem region_draw_wp {Γ : Nat → Option Fn} {call : Calls} {gops : Array Go.Oper} {ms : List Oper} {Q : Exit → Act → World → Prop} {id : Nat} (hm : P.follows .mixedOrders = true) (hB : Bodies P X.ρ Γ) (hS : Sound P X.ρ X.κ call) (hM : Apart M w0)
    (hQ : ∀ a' w', Holds X M φ0 w0 n σ' a' w' → Q .normal a' w') (hok : okOpers P X.ρ n gops.toList ms = true) (hdr : okDraw gops.toList ms = true) (h : Holds X M φ0 w0 n σ a w)
    (hr : region Γ call ms true σ = some σ') : (Go.Code.region id gops true).wp P Q a w := by
  have hlen : gops.size = ms.length := by have := (okOpers_get hok).1; simpa using this
  refine wp_region_any hm (any_wp hB hS hM hok hdr hQ gops.size (R := ms.zipIdx) (by simp [hlen]) ?_ (h.drawn _) ?_)
  · refine ⟨fun p hp => ?_, ?_, by simp [hlen], fun i hi => ?_, fun j m hm hj => ?_⟩
    · exact List.mem_zipIdx_iff_getElem?.1 hp
    · rw [List.pairwise_iff_getElem]
      intro i j hi hj hij
      simp [hij]
    · constructor
      · intro _
        exact ⟨(ms[i], i), List.mem_zipIdx_iff_getElem?.2 (by simp [hi]), rfl⟩
      · intro _
        simp [Array.getD_eq_getD_getElem?, hlen, hi]
    · exact (hj (m, j) (List.mem_zipIdx_iff_getElem?.2 hm) rfl).elim
  · rw [List.zipIdx_map_fst]
    simpa [region] using hr
end
end Go.DM

/- Code; a call. -/
namespace Go.DM
variable [Tok]
section
variable {P : Program} {X : Cx} {φ φ0 : Nat → Option Loc} {w0 w w' : World} {σ σ' : St} {a : Act} {n : Nat} {M : List Reg}
def okC (P : Program) (ρ : Nat → Nat) (n : Nat) : Go.Code → Code → Bool
  | .skip, .skip | .ret, .ret => true
  | .region _ gs false, .region ms false => okOpers P ρ n gs.toList ms
  | .region _ gs true, .region ms true => okOpers P ρ n gs.toList ms && okDraw gs.toList ms
  | .seq a b, .seq a' b' => okC P ρ n a a' && okC P ρ n b b'
  | .cond c a b, .cond c' a' b' => okX ρ c c' && okC P ρ n a a' && okC P ρ n b b'
  | .block id a, .block id' a' => id == id' && okC P ρ n a a'
  | .loop a, .loop a' => okC P ρ n a a'
  | .exit id, .exit id' => id == id'
  | _, _ => false
def exOf : Ex → Exit
  | .normal => .normal | .exit id => .exit id | .ret => .ret
theorem exec_wp {Γ : Nat → Option Fn} {call : Calls} (hm : P.follows .mixedOrders = true) (hB : Bodies P X.ρ Γ) (hS : Sound P X.ρ X.κ call) (hM : Apart M w0) (k : Nat) :
    ∀ {gc : Go.Code} {c : Code} {σ σ' : St} {e : Ex} {a : Act} {w : World} {Q : Exit → Act → World → Prop}, okC P X.ρ n gc c = true → Holds X M φ0 w0 n σ a w → exec (region Γ call) (iterN k) c σ = some (e, σ') →
      (∀ a' w', Holds X M φ0 w0 n σ' a' w' → Q (exOf e) a' w') → gc.wp P Q a w := by
  intro gc c
  induction c generalizing gc with
  | skip =>
    intro σ σ' e a w Q hok h hx hQ
    unfold okC at hok
    split at hok <;> first | (cases hok; done) | skip
    all_goals (rename_i heq; cases heq)
    cases hx
    exact wp_skip (hQ _ _ h)
  | ret =>
    intro σ σ' e a w Q hok h hx hQ
    unfold okC at hok
    split at hok <;> first | (cases hok; done) | skip
    all_goals (rename_i heq; cases heq)
    cases hx
    exact wp_ret (hQ _ _ h)
  | exit id =>
    intro σ σ' e a w Q hok h hx hQ
    unfold okC at hok
    split at hok <;> first | (cases hok; done) | skip
    all_goals (rename_i heq; cases heq)
    cases hx
    rw [eq_of_beq hok]
    exact wp_exit (hQ _ _ h)
  | region ms draw =>
    intro σ σ' e a w Q hok h hx hQ
    simp only [exec, Option.map_eq_some_iff] at hx
    obtain ⟨σ1, hr, hx⟩ := hx
    cases hx
    unfold okC at hok
    split at hok <;> first | (cases hok; done) | skip
    all_goals (rename_i heq; cases heq)
    · exact region_wp hB hS hM hQ hok h hr
    · rw [Bool.and_eq_true] at hok
      exact region_draw_wp hm hB hS hM hQ hok.1 hok.2 h hr
  | seq x y ihx ihy =>
    intro σ σ' e a w Q hok h hx hQ
    unfold okC at hok
    split at hok <;> first | (cases hok; done) | skip
    all_goals (rename_i heq; cases heq)
    rw [Bool.and_eq_true] at hok
    simp only [exec] at hx
    rw [obs] at hx
    obtain ⟨⟨e1, σ1⟩, h1, hx⟩ := hx
    refine wp_seq (ihx hok.1 h h1 fun a' w' h' => ?_)
    cases e1 with
    | normal => exact ihy hok.2 h' hx hQ
    | exit id => cases hx; exact hQ _ _ h'
    | ret => cases hx; exact hQ _ _ h'
  | cond c x y ihx ihy =>
    intro σ σ' e a w Q hok h hx hQ
    unfold okC at hok
    split at hok <;> first | (cases hok; done) | skip
    all_goals (rename_i heq; cases heq)
    simp only [Bool.and_eq_true] at hok
    obtain ⟨⟨h1, h2⟩, h3⟩ := hok
    simp only [exec] at hx
    split at hx
    · rename_i t heq
      obtain ⟨φ, hh⟩ := h
      have hc := okX_sim hh.rel.base h1
      rw [heq] at hc
      have hc' := sv_rel hc
      refine wp_cond (t := t) hc' ?_
      cases t
      · exact ihy h3 ⟨φ, hh⟩ hx hQ
      · exact ihx h2 ⟨φ, hh⟩ hx hQ
    · cases hx
  | block id c ih =>
    intro σ σ' e a w Q hok h hx hQ
    unfold okC at hok
    split at hok <;> first | (cases hok; done) | skip
    all_goals (rename_i heq; cases heq)
    rw [Bool.and_eq_true] at hok
    have e1 := eq_of_beq hok.1
    subst e1
    simp only [exec, Option.map_eq_some_iff] at hx
    obtain ⟨⟨e1, σ1⟩, h1, hx⟩ := hx
    refine wp_block (ih hok.2 h h1 fun a' w' h' => ?_)
    cases e1 with
    | normal => cases hx; exact hQ _ _ h'
    | ret => cases hx; exact hQ _ _ h'
    | exit id' =>
      simp only [exOf, Exit.inBlock]
      simp only at hx
      split at hx
      · rename_i heq
        rw [if_pos heq]
        cases hx; exact hQ _ _ h'
      · rename_i heq
        rw [if_neg heq]
        cases hx; exact hQ _ _ h'
  | loop c ih =>
    intro σ σ' e a w Q hok h hx hQ
    unfold okC at hok
    split at hok <;> first | (cases hok; done) | skip
    all_goals (rename_i heq; cases heq)
    rename_i gc
    simp only [exec] at hx
    refine wp_loop_rounds k ?_
    have key : ∀ (m : Nat) {σ : St} {a : Act} {w : World}, Holds X M φ0 w0 n σ a w → iterN m (exec (region Γ call) (iterN k) c) σ = some (e, σ') → Code.rounds P gc Q m a w := by
      intro m
      induction m with
      | zero => intro σ a w _ hx; cases hx
      | succ m ihm =>
        intro σ a w h hx
        simp only [iterN] at hx
        rw [obs] at hx
        obtain ⟨⟨e1, σ1⟩, h1, hx⟩ := hx
        rw [rounds_succ]
        refine ih hok h h1 fun a' w' h' => ?_
        cases e1 with
        | normal => exact ihm h' hx
        | exit id => cases hx; exact hQ _ _ h'
        | ret => cases hx; exact hQ _ _ h'
    exact key k h hx
def okRs (P : Program) : List ResultVar → List Rs → Bool
  | [], [] => true
  | .tmp t :: gs, .tmp t' :: rs => t == t' && okRs P gs rs
  | .cell t T :: gs, .cell t' n agg :: rs => t == t' && sizeIs P T n && rowIs P T agg && okRs P gs rs
  | _, _ => false
def okFn (P : Program) (ρ : Nat → Nat) (g : Func) (fn : Fn) : Bool :=
  (match g.body with | some c => fn.given.isSome || okC P ρ g.ntmps c fn.body | none => false) && (fn.given.isSome || okRs P g.results.toList fn.res) && g.name != "runtime.NumGoroutine"
theorem results_run {fn : Func} {res : List Rs} {vs : List V} (b : Base X φ σ a w) (hok : okRs P fn.results.toList res = true) (h : all? (resV σ) res = some vs) :
    ∃ us : List Value, (results fn a.tmps).run P w = .ok (packed us) w ∧ All2 (VRel X φ w) vs us := by
  have one : ∀ {gs : List ResultVar} {rs : List Rs} {vs : List V}, okRs P gs rs = true → all? (resV σ) rs = some vs →
      ∃ us : List Value, (gs.mapM fun | .tmp t => pure (a.tmps.getD t Go.undef) | .cell t T => do loadVar T (← asAddr (a.tmps.getD t Go.undef)) : Sem (List Value)).run P w = .ok us w ∧ All2 (VRel X φ w) vs us := by
    intro gs
    induction gs with
    | nil =>
      intro rs vs hok h
      cases rs with
      | nil => cases h; exact ⟨[], by simp, .nil⟩
      | cons r rs => simp [okRs] at hok
    | cons g gs ih =>
      intro rs vs hok h
      cases rs with
      | nil => cases g <;> simp [okRs] at hok
      | cons r rs =>
        simp only [all?] at h
        rw [obs] at h
        obtain ⟨v, hv, h⟩ := h
        rw [Option.map_eq_some_iff] at h
        obtain ⟨vs', h, rfl⟩ := h
        cases g with
        | tmp t =>
          cases r with
          | cell _ _ _ => simp [okRs] at hok
          | tmp t' =>
            simp only [okRs, Bool.and_eq_true] at hok
            have e := eq_of_beq hok.1
            subst e
            obtain ⟨us, h1, h2⟩ := ih hok.2 h
            simp only [resV, Option.some.injEq] at hv
            subst hv
            refine ⟨a.tmps.getD t Go.undef :: us, ?_, .cons (b.env t) h2⟩
            simp only [List.mapM_cons, Sem.run_bind, Sem.run_pure, Result.andThen_ok, h1]
        | cell t T =>
          cases r with
          | tmp _ => simp [okRs] at hok
          | cell t' n agg =>
            simp only [okRs, Bool.and_eq_true] at hok
            obtain ⟨⟨⟨e1, e2⟩, e3⟩, e4⟩ := hok
            have e := eq_of_beq e1
            subst e
            obtain ⟨us, h1, h2⟩ := ih e4 h
            simp only [resV] at hv
            obtain ⟨u, g1, g2⟩ := load_sim (P := P) b e3 e2 (b.env t) hv
            have g1' : (do loadVar T (← asAddr (a.tmps.getD t Go.undef)) : Sem Value).run P w = .ok u w := by
              revert g1
              generalize a.tmps.getD t Go.undef = q
              intro g1
              unfold Instr.loadAt at g1
              cases q <;> first | (simp [Instr.sureAddr] at g1; done) | skip
              rename_i p
              cases p with
              | none => simp [Instr.sureAddr] at g1
              | some p => simpa [Instr.sureAddr, asAddr] using g1
            refine ⟨u :: us, ?_, .cons g2 h2⟩
            simp only [List.mapM_cons, Sem.run_bind, Sem.run_pure, Result.andThen_ok, h1] at g1' ⊢
            rw [g1']
            simp only [Result.andThen_ok, h1]
  obtain ⟨us, h1, h2⟩ := one hok h
  refine ⟨us, ?_, h2⟩
  unfold results
  rw [Array.mapM_eq_mapM_toList]
  simp only [map_eq_pure_bind, Sem.run_bind, Sem.run_pure]
  generalize hq : Sem.run P (List.mapM _ fn.results.toList) w = q
  have hq' : q = .ok us w := by rw [← hq]; exact h1
  rw [hq']
  simp only [Result.andThen_ok]
  congr 1
  cases us with
  | nil => rfl
  | cons u us =>
    cases us with
    | nil => rfl
    | cons u' us => simp [packed]
end
end Go.DM
