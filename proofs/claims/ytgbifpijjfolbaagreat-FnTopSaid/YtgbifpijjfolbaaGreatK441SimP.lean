/- A region that draws its order. -/
import Derived.Test.YtgbifpijjfolbaaGreatK441SimM
import Derived.LoopN
set_option linter.all false
namespace Go.DM
variable [Tok]
def bindsAny (e : Edge) : Bool := Go.Region.binds .any e
def befOk (ms : List Oper) (g : Go.Oper) (m : Oper) : Bool :=
  m.bef.all fun a => g.after.any fun e => bindsAny e && (e.on == a || (match ms[e.on]? with | some m' => m'.bef.contains a | none => false))
def aftOk (g : Go.Oper) (j : Nat) : Bool := g.after.all fun e => !bindsAny e || decide (e.on < j)
def okDraw1 (ms : List Oper) : Nat → List Go.Oper → List Oper → Bool
  | _, [], [] => true
  | j, g :: gs, m :: ms' => befOk ms g m && aftOk g j && okDraw1 ms (j + 1) gs ms'
  | _, _, _ => false
def okPair (x y : Oper) (i : Nat) : Bool := y.bef.contains i || indep x y || entryPair x y || blindPair x y
def okPairs1 (x : Oper) (i : Nat) : List Oper → Bool
  | [] => true
  | y :: ys => okPair x y i && okPairs1 x i ys
def okPairs : Nat → List Oper → Bool
  | _, [] => true
  | i, x :: xs => okPairs1 x i xs && okPairs (i + 1) xs
def okDraw (gs : List Go.Oper) (ms : List Oper) : Bool := okDraw1 ms 0 gs ms && okPairs 0 ms
theorem okDraw1_get {all : List Oper} : ∀ {gs : List Go.Oper} {ms : List Oper} {k : Nat}, okDraw1 all k gs ms = true → ∀ (j : Nat) (g : Go.Oper) (m : Oper), gs[j]? = some g → ms[j]? = some m → befOk all g m = true ∧ aftOk g (k + j) = true
  | [], [], k, _, j, g, m, h, _ => by simp at h
  | g :: gs, m :: ms, k, h, j, g', m', hg, hm => by
    simp only [okDraw1, Bool.and_eq_true] at h
    cases j with
    | zero => simp at hg hm; subst hg; subst hm; exact h.1
    | succ j =>
      have := okDraw1_get h.2 j g' m' (by simpa using hg) (by simpa using hm)
      rwa [show k + 1 + j = k + (j + 1) by omega] at this
  | [], _ :: _, _, h, _, _, _, _, _ => by simp [okDraw1] at h
  | _ :: _, [], _, h, _, _, _, _, _ => by simp [okDraw1] at h
theorem okPairs1_get {x : Oper} {i : Nat} : ∀ {ys : List Oper}, okPairs1 x i ys = true → ∀ y ∈ ys, okPair x y i = true
  | [], _, y, h => by cases h
  | z :: zs, h, y, hy => by
    simp only [okPairs1, Bool.and_eq_true] at h
    rcases List.mem_cons.1 hy with rfl | hy
    · exact h.1
    · exact okPairs1_get h.2 y hy
theorem okPairs_get : ∀ {xs : List Oper} {k : Nat}, okPairs k xs = true → ∀ (i j : Nat) (x y : Oper), i < j → xs[i]? = some x → xs[j]? = some y → okPair x y (k + i) = true
  | [], k, _, i, j, x, y, _, h, _ => by simp at h
  | z :: zs, k, h, i, j, x, y, hij, hx, hy => by
    simp only [okPairs, Bool.and_eq_true] at h
    obtain ⟨j', rfl⟩ : ∃ j', j = j' + 1 := ⟨j - 1, by omega⟩
    cases i with
    | zero =>
      simp at hx; subst hx
      exact okPairs1_get h.1 y (List.mem_of_getElem? (by simpa using hy))
    | succ i =>
      have := okPairs_get h.2 i j' x y (by omega) (by simpa using hx) (by simpa using hy)
      rwa [show k + 1 + i = k + (i + 1) by omega] at this
section
variable {P : Program} {X : Cx} {φ0 : Nat → Option Loc} {w0 w : World} {σ σ' : St} {a : Act} {n : Nat} {M : List Reg}
theorem Holds.drawn (h : Holds X M φ0 w0 n σ a w) (k : Nat) : Holds X M φ0 w0 n σ a { w with drawn := k } := by
  obtain ⟨φ, h1, h2, h3, h4, h5⟩ := h
  refine ⟨φ, ⟨fun t => ?_, fun o ob ho => ?_, h1.inj, h1.own, h1.lt, h1.low, X.κ.keeps w _ h1.know.1 (Nat.le_refl _) (fun _ _ => rfl), h1.know.2⟩, ⟨h2.os, h2.tape, h2.output, h2.size, h2.shape, h2.same, h2.out⟩, h3, h4, h5⟩
  · exact VRel.keep (w := w) (w' := { w with drawn := k }) (fun _ => rfl) (fun _ c _ _ h => ⟨c, h, rfl⟩) (fun _ _ => rfl) (h1.env t)
  · obtain ⟨l, e1, e2⟩ := h1.objs o ob ho
    refine ⟨l, e1, ?_⟩
    cases ob with
    | flat p cs => exact e2
    | var x =>
      obtain ⟨c, T, fz, u, g1, g2, g3, g4⟩ := e2
      exact ⟨c, T, fz, u, g1, g2, g3, VRel.keep (w := w) (w' := { w with drawn := k }) (fun _ => rfl) (fun _ c _ _ h => ⟨c, h, rfl⟩) (fun _ _ => rfl) g4⟩
    | map ks es => exact e2
    | row xs =>
      obtain ⟨c, T, fz, vs, g1, g2, g3, g4⟩ := e2
      exact ⟨c, T, fz, vs, g1, g2, g3, g4.mono fun x v _ h => VRel.keep (x := .a x) (w := w) (w' := { w with drawn := k }) (fun _ => rfl) (fun _ c _ _ h => ⟨c, h, rfl⟩) (fun _ _ => rfl) h⟩
structure Rest (ms : List Oper) (listed : Array Bool) (R : List (Oper × Nat)) : Prop where
  mem : ∀ p ∈ R, ms[p.2]? = some p.1
  sorted : R.Pairwise fun p q => p.2 < q.2
  size : listed.size = ms.length
  listed : ∀ i, i < ms.length → (listed.getD i true = false ↔ ∃ p ∈ R, p.2 = i)
  closed : ∀ j m, ms[j]? = some m → (∀ p ∈ R, p.2 ≠ j) → ∀ b ∈ m.bef, ∀ p ∈ R, p.2 ≠ b
theorem getD_set (l : Array Bool) (i j : Nat) (d : Bool) (h : j < l.size) : (l.setIfInBounds i true).getD j d = if i = j then true else l.getD j d := by
  simp only [Array.getD_eq_getD_getElem?, Array.getElem?_setIfInBounds]
  by_cases e : i = j
  · subst e; simp [h]
  · simp [e]
theorem any_wp {Γ : Nat → Option Fn} {call : Calls} {gops : Array Go.Oper} {ms : List Oper} {Q : Exit → Act → World → Prop} (hB : Bodies P X.ρ Γ) (hS : Sound P X.ρ X.κ call) (hM : Apart M w0)
    (hok : okOpers P X.ρ n gops.toList ms = true) (hdr : okDraw gops.toList ms = true) (hQ : ∀ a' w', Holds X M φ0 w0 n σ' a' w' → Q .normal a' w') :
    ∀ (fuel : Nat) {listed : Array Bool} {R : List (Oper × Nat)} {σ : St} {a : Act} {w : World}, R.length = fuel → Rest ms listed R → Holds X M φ0 w0 n σ a w → run (stepH Γ call (dstsOf ms)) (R.map (·.1)) σ = some σ' →
      wpAny P .any gops Q fuel listed a w
  | 0, listed, R, σ, a, w, hl, hR, h, hr => by
    have : R = [] := List.eq_nil_of_length_eq_zero hl
    subst this
    cases hr
    refine ⟨?_, hQ _ _ h⟩
    have hlen : gops.size = ms.length := by have := (okOpers_get hok).1; simpa using this
    simp only [Region.ready, List.filter_eq_nil_iff, List.mem_range]
    intro i hi hc
    simp only [Bool.and_eq_true, Bool.not_eq_true'] at hc
    obtain ⟨p, hp, _⟩ := (hR.listed i (by omega)).1 hc.1
    cases hp
  | fuel + 1, listed, R, σ, a, w, hl, hR, h, hr => by
    obtain ⟨hlen0, hget⟩ := okOpers_get hok
    have hlen : gops.size = ms.length := by simpa using hlen0
    simp only [okDraw, Bool.and_eq_true] at hdr
    obtain ⟨hd1, hd2⟩ := hdr
    have hgm : ∀ {i : Nat} {m : Oper}, ms[i]? = some m → ∃ g, gops[i]? = some g ∧ okOper P X.ρ n g m = true ∧ befOk ms g m = true ∧ aftOk g i = true := by
      intro i m hm
      have hi : i < gops.size := by have := (List.getElem?_eq_some_iff.1 hm).1; omega
      refine ⟨gops[i], by simp [hi], ?_⟩
      have hg : gops.toList[i]? = some gops[i] := by simp [hi]
      have := okDraw1_get hd1 i _ m hg hm
      rw [Nat.zero_add] at this
      exact ⟨hget i _ m hg hm, this⟩
    have hnot : ∀ i, i < ms.length → (listed.getD i true = true ↔ ∀ p ∈ R, p.2 ≠ i) := by
      intro i hi
      have := hR.listed i hi
      constructor
      · intro h1 p hp e
        rw [this.2 ⟨p, hp, e⟩] at h1; cases h1
      · intro h1
        cases hc : listed.getD i true with
        | true => rfl
        | false =>
          obtain ⟨p, hp, e⟩ := this.1 hc
          exact (h1 p hp e).elim
    have hDD : ∀ i, i < ms.length → listed.getD i false = listed.getD i true := by
      intro i hi
      simp only [Array.getD_eq_getD_getElem?]
      rw [← hR.size] at hi
      simp [hi]
    refine ⟨fun hnil => ?_, fun i hi => ?_⟩
    · exfalso
      cases R with
      | nil => simp at hl
      | cons p R =>
        have hm := hR.mem p (List.mem_cons_self ..)
        obtain ⟨g, hg, _, _, haft⟩ := hgm hm
        have hplt : p.2 < ms.length := (List.getElem?_eq_some_iff.1 hm).1
        have : p.2 ∈ Region.ready .any gops listed := by
          simp only [Region.ready, List.mem_filter, List.mem_range]
          refine ⟨by omega, ?_⟩
          rw [hg]
          simp only [Bool.and_eq_true, Bool.not_eq_true', Option.map_some, Option.getD_some]
          refine ⟨(hR.listed _ hplt).2 ⟨p, List.mem_cons_self .., rfl⟩, ?_⟩
          unfold aftOk at haft
          rw [Array.all_eq_true] at haft ⊢
          intro k hk
          have := haft k hk
          rw [Bool.or_eq_true] at this ⊢
          refine this.imp (fun h => h) fun hlt => ?_
          have hlt := of_decide_eq_true hlt
          rw [hDD _ (by omega)]
          refine (hnot _ (by omega)).2 fun q hq e => ?_
          rcases List.mem_cons.1 hq with rfl | hq
          · omega
          · have := (List.pairwise_cons.1 hR.sorted).1 q hq
            omega
        rw [hnil] at this
        cases this
    · simp only [Region.ready, List.mem_filter, List.mem_range, Bool.and_eq_true, Bool.not_eq_true'] at hi
      obtain ⟨hi1, hi2, hi3⟩ := hi
      obtain ⟨p, hp, rfl⟩ := (hR.listed i (by omega)).1 hi2
      have hm := hR.mem p hp
      obtain ⟨g, hg, hokg, hbef, haft⟩ := hgm hm
      rw [hg] at hi3
      simp only [Option.map_some, Option.getD_some] at hi3
      rw [Array.all_eq_true] at hi3
      -- who stands ahead is done
      have hdone : ∀ b ∈ p.1.bef, ∀ q ∈ R, q.2 ≠ b := by
        intro b hb
        simp only [befOk, List.all_eq_true] at hbef
        have := hbef b hb
        rw [Array.any_eq_true] at this
        obtain ⟨k, hk, hkk⟩ := this
        rw [Bool.and_eq_true] at hkk
        obtain ⟨k1, k2⟩ := hkk
        have h3 := hi3 k hk
        have k1' : Region.binds .any g.after[k] = true := k1
        rw [k1'] at h3
        simp only [Bool.not_true, Bool.false_or] at h3
        have hlt : (g.after[k]).on < ms.length := by
          rw [← hR.size]
          by_cases hc : (g.after[k]).on < listed.size
          · exact hc
          · simp [Array.getD_eq_getD_getElem?, hc] at h3
        rw [hDD _ hlt] at h3
        have h4 := (hnot _ hlt).1 h3
        rw [Bool.or_eq_true] at k2
        rcases k2 with k2 | k2
        · rw [← eq_of_beq k2]; exact h4
        · split at k2
          · rename_i m' hm'
            exact hR.closed _ m' hm' h4 b (by simpa using k2)
          · cases k2
      obtain ⟨R1, R2, rfl⟩ := List.append_of_mem hp
      have hs := hR.sorted
      rw [List.pairwise_append] at hs
      obtain ⟨hs1, hs2, hs3⟩ := hs
      have hs2' := List.pairwise_cons.1 hs2
      have hind : ∀ x ∈ R1.map (·.1), Indep x p.1 ∨ entryPair x p.1 = true ∨ blindPair x p.1 = true := by
        intro x hx
        rw [List.mem_map] at hx
        obtain ⟨q, hq, rfl⟩ := hx
        have hqm := hR.mem q (List.mem_append_left _ hq)
        have hlt := hs3 q hq p (List.mem_cons_self ..)
        have := okPairs_get hd2 q.2 p.2 q.1 p.1 hlt hqm hm
        rw [Nat.zero_add] at this
        simp only [okPair, Bool.or_eq_true] at this
        rcases this with ((h1 | h1) | h1) | h1
        · exact (hdone q.2 (by simpa using h1) q (List.mem_append_left _ hq) rfl).elim
        · exact .inl (indep_spec h1)
        · exact .inr (.inl h1)
        · exact .inr (.inr h1)
      rw [List.map_append, List.map_cons] at hr
      obtain ⟨σ1, e1, e2⟩ := pull hind hr
      rw [← List.map_append] at e2
      have hplt : p.2 < ms.length := (List.getElem?_eq_some_iff.1 hm).1
      have hsub : ∀ q ∈ R1 ++ R2, q ∈ R1 ++ p :: R2 := fun q hq => by
        rcases List.mem_append.1 hq with h | h
        · exact List.mem_append_left _ h
        · exact List.mem_append_right _ (List.mem_cons_of_mem _ h)
      have hne : ∀ q ∈ R1 ++ R2, q.2 ≠ p.2 := fun q hq => by
        rcases List.mem_append.1 hq with h | h
        · have := hs3 q h p (List.mem_cons_self ..); omega
        · have := hs2'.1 q h; omega
      have hR' : Rest ms (listed.setIfInBounds p.2 true) (R1 ++ R2) := by
        refine ⟨fun q hq => hR.mem q (hsub q hq), ?_, by rw [Array.size_setIfInBounds]; exact hR.size, fun j hj => ?_, fun j m' hm' hj b hb q hq => ?_⟩
        · rw [List.pairwise_append]
          exact ⟨hs1, hs2'.2, fun x hx y hy => hs3 x hx y (List.mem_cons_of_mem _ hy)⟩
        · rw [getD_set _ _ _ _ (by rw [hR.size]; exact hj)]
          by_cases e : p.2 = j
          · rw [if_pos e]
            constructor
            · intro h; cases h
            · rintro ⟨q, hq, rfl⟩
              exact (hne q hq e.symm).elim
          · rw [if_neg e, hR.listed j hj]
            constructor
            · rintro ⟨q, hq, rfl⟩
              refine ⟨q, ?_, rfl⟩
              rcases List.mem_append.1 hq with h | h
              · exact List.mem_append_left _ h
              · rcases List.mem_cons.1 h with rfl | h
                · exact (e rfl).elim
                · exact List.mem_append_right _ h
            · rintro ⟨q, hq, rfl⟩
              exact ⟨q, hsub q hq, rfl⟩
        · by_cases e : p.2 = j
          · subst e
            rw [hm] at hm'; cases hm'
            exact hdone b hb q (hsub q hq)
          · refine hR.closed j m' hm' (fun q' hq' => ?_) b hb q (hsub q hq)
            rcases List.mem_append.1 hq' with h | h
            · exact hj q' (List.mem_append_left _ h)
            · rcases List.mem_cons.1 h with rfl | h
              · exact e
              · exact hj q' (List.mem_append_right _ h)
      unfold wpOp
      rw [hg]
      refine stepH_wp hB hS hM (fun j => by simpa using okOpers_dst hok j) hokg h e1 fun a' w' h' => ?_
      refine any_wp hB hS hM hok (by simp only [okDraw, Bool.and_eq_true]; exact ⟨hd1, hd2⟩) hQ fuel ?_ hR' h' e2
      simp only [List.length_append, List.length_cons] at hl ⊢
      omega
theorem region_draw_wp {Γ : Nat → Option Fn} {call : Calls} {gops : Array Go.Oper} {ms : List Oper} {Q : Exit → Act → World → Prop} {id : Nat} (hm : P.follows .mixedOrders = true) (hB : Bodies P X.ρ Γ) (hS : Sound P X.ρ X.κ call) (hM : Apart M w0)
    (hQ : ∀ a' w', Holds X M φ0 w0 n σ' a' w' → Q .normal a' w') (hok : okOpers P X.ρ n gops.toList ms = true) (hdr : okDraw gops.toList ms = true) (h : Holds X M φ0 w0 n σ a w)
    (hr : region Γ call ms true σ = some σ') : (Go.Code.region id gops true).wp P Q a w := by
  have hlen : gops.size = ms.length := by have := (okOpers_get hok).1; simpa using this
  refine wp_region_any hm (any_wp hB hS hM hok hdr hQ gops.size (R := ms.zipIdx) (by simp [hlen]) ?_ (h.drawn _) ?_)
  · refine ⟨fun p hp => ?_, ?_, by simp [hlen], fun i hi => ?_, fun j m hm hj => ?_⟩
    · exact List.mem_zipIdx_iff_getElem?.1 hp
    · rw [List.pairwise_iff_getElem]
      intro i j hi hj hij
      simp [hij]
    · constructor
      · intro _
        exact ⟨(ms[i], i), List.mem_zipIdx_iff_getElem?.2 (by simp [hi]), rfl⟩
      · intro _
        simp [Array.getD_eq_getD_getElem?, hlen, hi]
    · exact (hj (m, j) (List.mem_zipIdx_iff_getElem?.2 hm) rfl).elim
  · rw [List.zipIdx_map_fst]
    simpa [region] using hr
end
end Go.DM

/- Code; a call. -/
namespace Go.DM
variable [Tok]
section
variable {P : Program} {X : Cx} {φ φ0 : Nat → Option Loc} {w0 w w' : World} {σ σ' : St} {a : Act} {n : Nat} {M : List Reg}
def okC (P : Program) (ρ : Nat → Nat) (n : Nat) : Go.Code → Code → Bool
  | .skip, .skip | .ret, .ret => true
  | .region _ gs false, .region ms false => okOpers P ρ n gs.toList ms
  | .region _ gs true, .region ms true => okOpers P ρ n gs.toList ms && okDraw gs.toList ms
  | .seq a b, .seq a' b' => okC P ρ n a a' && okC P ρ n b b'
  | .cond c a b, .cond c' a' b' => okX ρ c c' && okC P ρ n a a' && okC P ρ n b b'
  | .block id a, .block id' a' => id == id' && okC P ρ n a a'
  | .loop a, .loop a' => okC P ρ n a a'
  | .exit id, .exit id' => id == id'
  | _, _ => false
def exOf : Ex → Exit
  | .normal => .normal | .exit id => .exit id | .ret => .ret
theorem exec_wp {Γ : Nat → Option Fn} {call : Calls} (hm : P.follows .mixedOrders = true) (hB : Bodies P X.ρ Γ) (hS : Sound P X.ρ X.κ call) (hM : Apart M w0) (k : Nat) :
    ∀ {gc : Go.Code} {c : Code} {σ σ' : St} {e : Ex} {a : Act} {w : World} {Q : Exit → Act → World → Prop}, okC P X.ρ n gc c = true → Holds X M φ0 w0 n σ a w → exec (region Γ call) (iterN k) c σ = some (e, σ') →
      (∀ a' w', Holds X M φ0 w0 n σ' a' w' → Q (exOf e) a' w') → gc.wp P Q a w := by
  intro gc c
  induction c generalizing gc with
  | skip =>
    intro σ σ' e a w Q hok h hx hQ
    unfold okC at hok
    split at hok <;> first | (cases hok; done) | skip
    all_goals (rename_i heq; cases heq)
    cases hx
    exact wp_skip (hQ _ _ h)
  | ret =>
    intro σ σ' e a w Q hok h hx hQ
    unfold okC at hok
    split at hok <;> first | (cases hok; done) | skip
    all_goals (rename_i heq; cases heq)
    cases hx
    exact wp_ret (hQ _ _ h)
  | exit id =>
    intro σ σ' e a w Q hok h hx hQ
    unfold okC at hok
    split at hok <;> first | (cases hok; done) | skip
    all_goals (rename_i heq; cases heq)
    cases hx
    rw [eq_of_beq hok]
    exact wp_exit (hQ _ _ h)
  | region ms draw =>
    intro σ σ' e a w Q hok h hx hQ
    simp only [exec, Option.map_eq_some_iff] at hx
    obtain ⟨σ1, hr, hx⟩ := hx
    cases hx
    unfold okC at hok
    split at hok <;> first | (cases hok; done) | skip
    all_goals (rename_i heq; cases heq)
    · exact region_wp hB hS hM hQ hok h hr
    · rw [Bool.and_eq_true] at hok
      exact region_draw_wp hm hB hS hM hQ hok.1 hok.2 h hr
  | seq x y ihx ihy =>
    intro σ σ' e a w Q hok h hx hQ
    unfold okC at hok
    split at hok <;> first | (cases hok; done) | skip
    all_goals (rename_i heq; cases heq)
    rw [Bool.and_eq_true] at hok
    simp only [exec] at hx
    rw [obs] at hx
    obtain ⟨⟨e1, σ1⟩, h1, hx⟩ := hx
    refine wp_seq (ihx hok.1 h h1 fun a' w' h' => ?_)
    cases e1 with
    | normal => exact ihy hok.2 h' hx hQ
    | exit id => cases hx; exact hQ _ _ h'
    | ret => cases hx; exact hQ _ _ h'
  | cond c x y ihx ihy =>
    intro σ σ' e a w Q hok h hx hQ
    unfold okC at hok
    split at hok <;> first | (cases hok; done) | skip
    all_goals (rename_i heq; cases heq)
    simp only [Bool.and_eq_true] at hok
    obtain ⟨⟨h1, h2⟩, h3⟩ := hok
    simp only [exec] at hx
    split at hx
    · rename_i t heq
      obtain ⟨φ, hh⟩ := h
      have hc := okX_sim hh.rel.base h1
      rw [heq] at hc
      have hc' := sv_rel hc
      refine wp_cond (t := t) hc' ?_
      cases t
      · exact ihy h3 ⟨φ, hh⟩ hx hQ
      · exact ihx h2 ⟨φ, hh⟩ hx hQ
    · cases hx
  | block id c ih =>
    intro σ σ' e a w Q hok h hx hQ
    unfold okC at hok
    split at hok <;> first | (cases hok; done) | skip
    all_goals (rename_i heq; cases heq)
    rw [Bool.and_eq_true] at hok
    have e1 := eq_of_beq hok.1
    subst e1
    simp only [exec, Option.map_eq_some_iff] at hx
    obtain ⟨⟨e1, σ1⟩, h1, hx⟩ := hx
    refine wp_block (ih hok.2 h h1 fun a' w' h' => ?_)
    cases e1 with
    | normal => cases hx; exact hQ _ _ h'
    | ret => cases hx; exact hQ _ _ h'
    | exit id' =>
      simp only [exOf, Exit.inBlock]
      simp only at hx
      split at hx
      · rename_i heq
        rw [if_pos heq]
        cases hx; exact hQ _ _ h'
      · rename_i heq
        rw [if_neg heq]
        cases hx; exact hQ _ _ h'
  | loop c ih =>
    intro σ σ' e a w Q hok h hx hQ
    unfold okC at hok
    split at hok <;> first | (cases hok; done) | skip
    all_goals (rename_i heq; cases heq)
    rename_i gc
    simp only [exec] at hx
    refine wp_loop_rounds k ?_
    have key : ∀ (m : Nat) {σ : St} {a : Act} {w : World}, Holds X M φ0 w0 n σ a w → iterN m (exec (region Γ call) (iterN k) c) σ = some (e, σ') → Code.rounds P gc Q m a w := by
      intro m
      induction m with
      | zero => intro σ a w _ hx; cases hx
      | succ m ihm =>
        intro σ a w h hx
        simp only [iterN] at hx
        rw [obs] at hx
        obtain ⟨⟨e1, σ1⟩, h1, hx⟩ := hx
        rw [rounds_succ]
        refine ih hok h h1 fun a' w' h' => ?_
        cases e1 with
        | normal => exact ihm h' hx
        | exit id => cases hx; exact hQ _ _ h'
        | ret => cases hx; exact hQ _ _ h'
    exact key k h hx
def okRs (P : Program) : List ResultVar → List Rs → Bool
  | [], [] => true
  | .tmp t :: gs, .tmp t' :: rs => t == t' && okRs P gs rs
  | .cell t T :: gs, .cell t' n agg :: rs => t == t' && sizeIs P T n && rowIs P T agg && okRs P gs rs
  | _, _ => false
def okFn (P : Program) (ρ : Nat → Nat) (g : Func) (fn : Fn) : Bool :=
  (match g.body with | some c => fn.given.isSome || okC P ρ g.ntmps c fn.body | none => false) && (fn.given.isSome || okRs P g.results.toList fn.res) && g.name != "runtime.NumGoroutine"
theorem results_run {fn : Func} {res : List Rs} {vs : List V} (b : Base X φ σ a w) (hok : okRs P fn.results.toList res = true) (h : all? (resV σ) res = some vs) :
    ∃ us : List Value, (results fn a.tmps).run P w = .ok (packed us) w ∧ All2 (VRel X φ w) vs us := by
  have one : ∀ {gs : List ResultVar} {rs : List Rs} {vs : List V}, okRs P gs rs = true → all? (resV σ) rs = some vs →
      ∃ us : List Value, (gs.mapM fun | .tmp t => pure (a.tmps.getD t Go.undef) | .cell t T => do loadVar T (← asAddr (a.tmps.getD t Go.undef)) : Sem (List Value)).run P w = .ok us w ∧ All2 (VRel X φ w) vs us := by
    intro gs
    induction gs with
    | nil =>
      intro rs vs hok h
      cases rs with
      | nil => cases h; exact ⟨[], by simp, .nil⟩
      | cons r rs => simp [okRs] at hok
    | cons g gs ih =>
      intro rs vs hok h
      cases rs with
      | nil => cases g <;> simp [okRs] at hok
      | cons r rs =>
        simp only [all?] at h
        rw [obs] at h
        obtain ⟨v, hv, h⟩ := h
        rw [Option.map_eq_some_iff] at h
        obtain ⟨vs', h, rfl⟩ := h
        cases g with
        | tmp t =>
          cases r with
          | cell _ _ _ => simp [okRs] at hok
          | tmp t' =>
            simp only [okRs, Bool.and_eq_true] at hok
            have e := eq_of_beq hok.1
            subst e
            obtain ⟨us, h1, h2⟩ := ih hok.2 h
            simp only [resV, Option.some.injEq] at hv
            subst hv
            refine ⟨a.tmps.getD t Go.undef :: us, ?_, .cons (b.env t) h2⟩
            simp only [List.mapM_cons, Sem.run_bind, Sem.run_pure, Result.andThen_ok, h1]
        | cell t T =>
          cases r with
          | tmp _ => simp [okRs] at hok
          | cell t' n agg =>
            simp only [okRs, Bool.and_eq_true] at hok
            obtain ⟨⟨⟨e1, e2⟩, e3⟩, e4⟩ := hok
            have e := eq_of_beq e1
            subst e
            obtain ⟨us, h1, h2⟩ := ih e4 h
            simp only [resV] at hv
            obtain ⟨u, g1, g2⟩ := load_sim (P := P) b e3 e2 (b.env t) hv
            have g1' : (do loadVar T (← asAddr (a.tmps.getD t Go.undef)) : Sem Value).run P w = .ok u w := by
              revert g1
              generalize a.tmps.getD t Go.undef = q
              intro g1
              unfold Instr.loadAt at g1
              cases q <;> first | (simp [Instr.sureAddr] at g1; done) | skip
              rename_i p
              cases p with
              | none => simp [Instr.sureAddr] at g1
              | some p => simpa [Instr.sureAddr, asAddr] using g1
            refine ⟨u :: us, ?_, .cons g2 h2⟩
            simp only [List.mapM_cons, Sem.run_bind, Sem.run_pure, Result.andThen_ok, h1] at g1' ⊢
            rw [g1']
            simp only [Result.andThen_ok, h1]
  obtain ⟨us, h1, h2⟩ := one hok h
  refine ⟨us, ?_, h2⟩
  unfold results
  rw [Array.mapM_eq_mapM_toList]
  simp only [map_eq_pure_bind, Sem.run_bind, Sem.run_pure]
  generalize hq : Sem.run P (List.mapM _ fn.results.toList) w = q
  have hq' : q = .ok us w := by rw [← hq]; exact h1
  rw [hq']
  simp only [Result.andThen_ok]
  congr 1
  cases us with
  | nil => rfl
  | cons u us =>
    cases us with
    | nil => rfl
    | cons u' us => simp [packed]
end
end Go.DM

/- A call, from its entry to its return. -/
namespace Go.DM
variable [Tok]
section
variable {P : Program} {X : Cx} {φ φ0 : Nat → Option Loc} {w0 w w' : World} {σ σ' : St} {a : Act} {n : Nat} {M : List Reg}
def placeOf (rs : List (Option Reg)) (o : Nat) : Option Loc := (rs[o]?).bind fun r => r.map fun m => (m.1, m.2.1)
theorem placeOf_eq {rs : List (Option Reg)} {o : Nat} {l : Loc} (h : placeOf rs o = some l) : ∃ m : Reg, rs[o]? = some (some m) ∧ l = (m.1, m.2.1) := by
  unfold placeOf at h
  rw [obs] at h
  obtain ⟨r, h1, h2⟩ := h
  rw [Option.map_eq_some_iff] at h2
  obtain ⟨m, rfl, h3⟩ := h2
  exact ⟨m, h1, h3.symm⟩
theorem enter_holds {ρ : Nat → Nat} {κ : Kn} {as : List Arg} {vs : List Value} {rs : List (Option Reg)} {ntmps : Nat} (h : ArgsRel ρ w as vs rs) (hk1 : κ.Ks w) (hk2 : κ.n0 ≤ w.heap.size) (hk3 : ∀ m ∈ some? rs, κ.n0 ≤ m.1) :
    Holds { inner ρ w (some? rs) with κ := κ } (some? rs) (placeOf rs) w ntmps (enter as) { tmps := vs.toArray ++ Array.replicate (ntmps - vs.toArray.size) Go.undef, defers := [] } w := by
  -- an argument that may be written
  have hreg : ∀ (o : Nat) (ob : Ob), (enter as).objs o = some ob → ∃ (x : Arg) (v : Value) (m : Reg) (cs : List S), as[o]? = some x ∧ vs[o]? = some v ∧ rs[o]? = some (some m) ∧ ob = .flat true cs ∧ m.2.2 = cs.length ∧
      w.rangeAt m.1 m.2.1 (encs cs) ∧ ∃ c T fz, Blk w m.1 c T fz ∧ m.2.1 + cs.length ≤ c.size := by
    intro o ob ho
    simp only [enter] at ho
    rw [obs] at ho
    obtain ⟨x, hx, ho⟩ := ho
    have hi : o < as.length := (List.getElem?_eq_some_iff.1 hx).1
    obtain ⟨v, hv⟩ : ∃ v, vs[o]? = some v := ⟨vs[o]'(by rw [← h.len]; exact hi), by simp⟩
    obtain ⟨r, hr⟩ : ∃ r, rs[o]? = some r := ⟨rs[o]'(by rw [← h.len']; exact hi), by simp⟩
    have he := h.each o x v r hx hv hr
    cases x with
    | d x => cases ho
    | mp cs =>
      cases ho
      cases r with
      | none => exact he.elim
      | some m =>
        obtain ⟨_, h2, h3, h4⟩ := he
        exact ⟨_, v, m, cs, hx, hv, hr, rfl, h2, h3, h4⟩
    | ms k es cs =>
      cases ho
      cases r with
      | none => exact he.elim
      | some m =>
        obtain ⟨_, _, _, _, _, _, h2, _, h3, h4⟩ := he
        exact ⟨_, v, m, cs, hx, hv, hr, rfl, h2, h3, h4⟩
  have hmem : ∀ {o : Nat} {m : Reg}, rs[o]? = some (some m) → m ∈ some? rs := fun {o m} ho => some?_mem.2 ⟨o, ho⟩
  refine ⟨placeOf rs, ⟨fun t => ?_, fun o ob ho => ?_, fun o o' ob ob' l l' h1 h2 h3 h4 e => ?_, fun o ob l h1 h2 => ?_, fun b hb => hb.1, Nat.le_refl _, hk1, hk2, hk3, fun b hb => ⟨Nat.lt_of_lt_of_le hb hk2, fun m hm e => absurd (show b < κ.n0 from hb) (Nat.not_lt.2 (e ▸ hk3 m hm))⟩⟩, Left.refl _ _, ?_, rfl, fun _ _ _ _ _ => rfl⟩
  · simp only [enter]
    cases hx : as[t]? with
    | none => trivial
    | some x =>
      have hi : t < as.length := (List.getElem?_eq_some_iff.1 hx).1
      have hiv : t < vs.length := by rw [← h.len]; exact hi
      obtain ⟨r, hr⟩ : ∃ r, rs[t]? = some r := ⟨rs[t]'(by rw [← h.len']; exact hi), by simp⟩
      have he := h.each t x vs[t] r hx (by simp) hr
      have e : (vs.toArray ++ Array.replicate (ntmps - vs.toArray.size) Go.undef).getD t Go.undef = vs[t] := by
        rw [Array.getD_eq_getD_getElem?, Array.getElem?_append_left (by simpa using hiv)]
        simp [hiv]
      rw [e]
      cases x with
      | d x =>
        cases r with
        | none => exact he
        | some m => exact he.elim
      | mp cs =>
        cases r with
        | none => exact he.elim
        | some m =>
          obtain ⟨h1, _⟩ := he
          exact ⟨(m.1, m.2.1), by simp [placeOf, hr], h1⟩
      | ms k es cs =>
        cases r with
        | none => exact he.elim
        | some m =>
          obtain ⟨ad, cap, h1, h2, h3, h4, _⟩ := he
          exact ⟨(m.1, m.2.1), ad, cap, by simp [placeOf, hr], h1, h2, by simpa using h3, by simpa using h4⟩
  · obtain ⟨x, v, m, cs, g1, g2, g3, rfl, g5, g6, c, T, fz, g7, g8⟩ := hreg o ob ho
    exact ⟨(m.1, m.2.1), by simp [placeOf, g3], c, T, fz, g7, g8, g6⟩
  · obtain ⟨m, k1, rfl⟩ := placeOf_eq h3
    obtain ⟨m', k2, rfl⟩ := placeOf_eq h4
    exact h.nodup o o' m m' k1 k2 e
  · obtain ⟨x, v, m, cs, g1, g2, g3, rfl, g5, _⟩ := hreg o ob h1
    obtain ⟨m', k1, rfl⟩ := placeOf_eq h2
    rw [g3] at k1; cases k1
    refine ⟨fun hI => hI.2 m (hmem g3) rfl, h.apart.lt m (hmem g3), ?_⟩
    simp only [parLen]
    rw [← g5]
    exact hmem g3
  · simp only [Array.size_append, Array.size_replicate]
    omega
theorem nodup_pos : ∀ {os : List (Option Nat)}, nodup (os.filterMap id) = true → ∀ (i j o : Nat), os[i]? = some (some o) → os[j]? = some (some o) → i = j
  | [], _, i, j, o, h, _ => by simp at h
  | x :: os, hn, i, j, o, hi, hj => by
    have key : ∀ (j : Nat), os[j]? = some (some o) → o ∈ os.filterMap id := fun j hj => List.mem_filterMap.2 ⟨some o, List.mem_of_getElem? hj, rfl⟩
    cases x with
    | none =>
      cases i with
      | zero => simp at hi
      | succ i =>
        cases j with
        | zero => simp at hj
        | succ j =>
          have : nodup (os.filterMap id) = true := by simpa using hn
          rw [nodup_pos this i j o (by simpa using hi) (by simpa using hj)]
    | some p =>
      have hn' : (!(os.filterMap id).contains p && nodup (os.filterMap id)) = true := by simpa [nodup] using hn
      rw [Bool.and_eq_true] at hn'
      have hp : p ∉ os.filterMap id := by
        have := hn'.1
        simpa only [Bool.not_eq_true', contains_false] using this
      cases i with
      | zero =>
        cases j with
        | zero => rfl
        | succ j =>
          simp at hi; subst hi
          exact (hp (key j (by simpa using hj))).elim
      | succ i =>
        cases j with
        | zero =>
          simp at hj; subst hj
          exact (hp (key i (by simpa using hi))).elim
        | succ j => rw [nodup_pos hn'.2 i j o (by simpa using hi) (by simpa using hj)]
theorem all?_get {α β : Type} {f : α → Option β} : ∀ {xs : List α} {ys : List β}, all? f xs = some ys → xs.length = ys.length ∧ ∀ (i : Nat) (x : α) (y : β), xs[i]? = some x → ys[i]? = some y → f x = some y
  | [], ys, h => by cases h; exact ⟨rfl, fun i x y h => by simp at h⟩
  | x :: xs, ys, h => by
    simp only [all?] at h
    rw [obs] at h
    obtain ⟨y, h1, h⟩ := h
    rw [Option.map_eq_some_iff] at h
    obtain ⟨ys', h2, rfl⟩ := h
    obtain ⟨h3, h4⟩ := all?_get h2
    refine ⟨by simp [h3], fun i x' y' hx hy => ?_⟩
    cases i with
    | zero => simp at hx hy; subst hx; subst hy; exact h1
    | succ i => exact h4 i x' y' (by simpa using hx) (by simpa using hy)
theorem retOf_sim {ρ : Nat → Nat} {as : List Arg} {rs : List (Option Reg)} {vs0 : List Value} (ha : ArgsRel ρ w0 as vs0 rs) (h : Holds' X (some? rs) (placeOf rs) w0 n φ σ a w) {v : V} {u : Value} {r : Ret} {o : Option Nat}
    (hr : retOf as σ v = some (r, o)) (hv : VRel X φ w v u) : RetRel w0 w rs r u (o.bind fun o => (φ o).map (·.1)) ∧ (∀ i, o = some i → ∃ l ob, φ i = some l ∧ σ.objs i = some ob) := by
  unfold retOf at hr
  split at hr
  · cases hr
    exact ⟨sv_rel hv, fun i hi => by cases hi⟩
  · cases hr
    have hv : DRel _ _ _ _ _ := hv
    cases hv
    exact ⟨rfl, fun i hi => by cases hi⟩
  · rename_i o' off m es
    obtain ⟨l, ad, cap, g1, rfl, g3, g4, g5⟩ := hv
    split at hr
    · rename_i cs hob
      split at hr
      · rename_i hc
        cases hr
        obtain ⟨l', k1, c, T, fz, k2, k3, k4⟩ := h.rel.objs _ _ hob
        rw [g1] at k1; cases k1
        obtain ⟨_, q2, q3⟩ := h.rel.own _ _ l hob g1
        refine ⟨?_, fun i hi => by cases hi; exact ⟨l, _, g1, hob⟩⟩
        simp only [Option.bind_some, g1, Option.map_some]
        refine ⟨l.2 + off, ad, cap, rfl, q3, q2, g3, g4, g5, c, T, fz, k2, ?_, fun j v hj => ?_⟩
        · simp only [List.length_take, List.length_drop]; omega
        · have hj' : ((encs cs).drop off |>.take (m * es))[j]? = some v := by
            have : encs ((cs.drop off).take (m * es)) = ((encs cs).drop off).take (m * es) := by simp [encs, List.map_take, List.map_drop]
            rw [← this]; exact hj
          rw [List.getElem?_take] at hj'
          split at hj'
          · rw [List.getElem?_drop] at hj'
            have := k4 _ _ hj'
            rwa [← Nat.add_assoc] at this
          · cases hj'
      · cases hr
    · rename_i cs hob
      split at hr
      · rename_i x y z hx
        cases hr
        refine ⟨?_, fun i hi => by cases hi⟩
        have hp := h.par _ _ _ hob rfl
        rw [g1] at hp
        obtain ⟨m', k1, rfl⟩ := placeOf_eq hp.symm
        exact ⟨m', ad, cap, k1, rfl, g3, g4, g5⟩
      · cases hr
    · cases hr
  · rename_i o'
    obtain ⟨l, g1, rfl⟩ := hv
    split at hr
    · rename_i cs hob
      cases hr
      obtain ⟨l', k1, k2⟩ := h.rel.objs _ _ hob
      rw [g1] at k1; cases k1
      obtain ⟨_, q2, q3⟩ := h.rel.own _ _ l hob g1
      refine ⟨?_, fun i hi => by cases hi; exact ⟨l, _, g1, hob⟩⟩
      simp only [Option.bind_some, g1, Option.map_some]
      exact ⟨l.2, rfl, q3, q2, k2⟩
    · cases hr
  · rename_i o'
    obtain ⟨l, g1, rfl⟩ := hv
    split at hr
    · rename_i ks es hob
      cases hr
      obtain ⟨l', k1, k2⟩ := h.rel.objs _ _ hob
      rw [g1] at k1; cases k1
      obtain ⟨_, q2, q3⟩ := h.rel.own _ _ l hob g1
      refine ⟨?_, fun i hi => by cases hi; exact ⟨l, _, g1, hob⟩⟩
      simp only [Option.bind_some, g1, Option.map_some]
      exact ⟨rfl, q3, q2, k2⟩
    · cases hr
  · cases hr
theorem outs_sim {ρ : Nat → Nat} {rs : List (Option Reg)} {as0 : List Arg} {vs0 : List Value} (ha : ArgsRel ρ w0 as0 vs0 rs) (h : Holds' X (some? rs) (placeOf rs) w0 n φ σ a w) :
    ∀ {as : List Arg} {k : Nat} {outs : List (List S)}, (∀ j, as[j]? = as0[k + j]?) → outsOf σ k as = some outs → All2 (OutRel w) (some? (rs.drop k)) outs
  | [], k, outs, hj, ho => by
    cases ho
    have h1 : as0.length ≤ k := by
      have := hj 0
      simp only [List.getElem?_nil, Nat.add_zero] at this
      exact List.getElem?_eq_none_iff.1 this.symm
    have : rs.drop k = [] := List.drop_eq_nil_of_le (by rw [← ha.len']; exact h1)
    rw [this]
    exact .nil
  | x :: as, k, outs, hj, ho => by
    have hx : as0[k]? = some x := by have := hj 0; simpa using this.symm
    have hk : k < as0.length := (List.getElem?_eq_some_iff.1 hx).1
    have hkr : k < rs.length := by rw [← ha.len']; exact hk
    have hkv : k < vs0.length := by rw [← ha.len]; exact hk
    have hj' : ∀ j, as[j]? = as0[k + 1 + j]? := fun j => by have := hj (j + 1); simpa [Nat.add_assoc, Nat.add_comm 1 j] using this
    have he := ha.each k x vs0[k] rs[k] hx (by simp) (by simp)
    rw [List.drop_eq_getElem_cons hkr]
    simp only [outsOf] at ho
    split at ho
    · rename_i hm
      rw [obs] at ho
      obtain ⟨c, hc, ho⟩ := ho
      rw [Option.map_eq_some_iff] at ho
      obtain ⟨outs', ho, rfl⟩ := ho
      have ih := outs_sim ha h hj' ho
      cases hr : rs[k] with
      | none =>
        rw [hr] at he
        cases x with
        | d x => cases hm
        | mp cs => exact he.elim
        | ms k es cs => exact he.elim
      | some m =>
        rw [hr] at he
        have e : some? (some m :: rs.drop (k + 1)) = m :: some? (rs.drop (k + 1)) := rfl
        rw [e]
        refine .cons ?_ ih
        have hlen : ∀ cs cs' : List S, σ.objs k = some (.flat true cs') → (if cs'.length = cs.length then some cs' else none) = some c → m.2.2 = cs.length → OutRel w m c := by
          intro cs cs' hob hq hlen
          split at hq
          · rename_i hl
            cases hq
            obtain ⟨l, k1, _, _, _, _, _, k2⟩ := h.rel.objs _ _ hob
            have hp := h.par _ _ _ hob rfl
            rw [k1] at hp
            obtain ⟨m', k3, rfl⟩ := placeOf_eq hp.symm
            have : m' = m := by
              rw [List.getElem?_eq_getElem hkr, hr] at k3; cases k3; rfl
            subst this
            exact ⟨by rw [hlen, hl], k2⟩
          · cases hq
        unfold outOf at hc
        split at hc
        · rename_i hob
          obtain ⟨_, h2, _⟩ := he
          exact hlen _ _ hob hc h2
        · rename_i hob
          obtain ⟨_, _, _, _, _, _, h2, _⟩ := he
          exact hlen _ _ hob hc h2
        · cases hc
    · rename_i hm
      have ih := outs_sim ha h hj' ho
      cases hr : rs[k] with
      | none =>
        have e : some? (none :: rs.drop (k + 1)) = some? (rs.drop (k + 1)) := rfl
        rw [e]; exact ih
      | some m =>
        rw [hr] at he
        cases x with
        | d x => exact he.elim
        | mp cs => exact (hm rfl).elim
        | ms k es cs => exact (hm rfl).elim
theorem finish_sim {ρ : Nat → Nat} {rs : List (Option Reg)} {as : List Arg} {vs0 : List Value} {fn : Fn} {g : Func} {r : Res} (ha : ArgsRel ρ w0 as vs0 rs) (h : Holds' X (some? rs) (placeOf rs) w0 n φ σ a w)
    (hok : okRs P g.results.toList fn.res = true) (hf : finish fn as σ = some r) : ∃ v, (results g a.tmps).run P w = .ok v w ∧ ResRel w0 w rs r v := by
  unfold finish at hf
  rw [obs] at hf
  obtain ⟨vs, hvs, hf⟩ := hf
  rw [obs] at hf
  obtain ⟨os, hos, hf⟩ := hf
  split at hf
  · rename_i hnd
    rw [Option.map_eq_some_iff] at hf
    obtain ⟨outs, houts, rfl⟩ := hf
    obtain ⟨us, hrun, hus⟩ := results_run h.rel.base hok hvs
    refine ⟨_, hrun, h.left, ?_, by simpa using outs_sim ha h (k := 0) (fun j => by simp) houts⟩
    obtain ⟨hl, hget⟩ := all?_get hos
    have hone : ∀ (i : Nat) (q : Ret × Option Nat) (u : Value), os[i]? = some q → us[i]? = some u → RetRel w0 w rs q.1 u (q.2.bind fun o => (φ o).map (·.1)) ∧ (∀ j, q.2 = some j → ∃ l ob, φ j = some l ∧ σ.objs j = some ob) := by
      intro i q u hq hu
      have hi : i < vs.length := by rw [hl]; exact (List.getElem?_eq_some_iff.1 hq).1
      exact retOf_sim ha h (hget i vs[i] q (by simp) hq) (hus.2 i vs[i] u (by simp) hu)
    refine ⟨us, os.map fun q => q.2.bind fun o => (φ o).map (·.1), rfl, by simp [← hl, hus.1], by simp, fun i x u b hx hu hb => ?_, fun i j b hi hj => ?_⟩
    · simp only [List.getElem?_map, Option.map_eq_some_iff] at hx hb
      obtain ⟨q, hq, rfl⟩ := hx
      obtain ⟨q', hq', rfl⟩ := hb
      rw [hq] at hq'; cases hq'
      exact (hone i q u hq hu).1
    · simp only [List.getElem?_map, Option.map_eq_some_iff] at hi hj
      obtain ⟨q, hq, hqb⟩ := hi
      obtain ⟨q', hq', hqb'⟩ := hj
      have hget' : ∀ (i : Nat) (q : Ret × Option Nat), os[i]? = some q → (q.2.bind fun o => (φ o).map (·.1)) = some b → ∃ o l ob, q.2 = some o ∧ φ o = some l ∧ l.1 = b ∧ σ.objs o = some ob := by
        intro i q hq hb
        rw [obs] at hb
        obtain ⟨o, h1, h2⟩ := hb
        rw [Option.map_eq_some_iff] at h2
        obtain ⟨l, h2, h3⟩ := h2
        have hiu : i < us.length := by rw [← hus.1, hl]; exact (List.getElem?_eq_some_iff.1 hq).1
        obtain ⟨l', ob, h4, h5⟩ := (hone i q us[i] hq (by simp)).2 o h1
        exact ⟨o, l, ob, h1, h2, h3, h5⟩
      obtain ⟨o, l, ob, g1, g2, g3, g4⟩ := hget' i q hq hqb
      obtain ⟨o', l', ob', g1', g2', g3', g4'⟩ := hget' j q' hq' hqb'
      have e := h.rel.inj o o' ob ob' l l' g4 g4' g2 g2' (g3.trans g3'.symm)
      subst e
      have hnd' : nodup ((os.map (·.2)).filterMap id) = true := by
        rw [List.filterMap_map]; exact hnd
      exact nodup_pos hnd' i j o (by simp [hq, g1]) (by simp [hq', g1'])
  · cases hf
def Known (P : Program) (ρ : Nat → Nat) (κ : Kn) (f : Nat) (o : List Arg → Option Res) : Prop :=
  ∀ (as : List Arg) (r : Res), o as = some r → ∀ (w : World) (vs : List Value) (rs : List (Option Reg)), ArgsRel ρ w as vs rs → κ.K w → κ.n0 ≤ w.heap.size → (∀ m ∈ some? rs, κ.n0 ≤ m.1) →
    Go.Calls P f vs.toArray w fun e w' => ∃ v, e = .returned v ∧ ResRel w w' rs r v
def Table (P : Program) (ρ : Nat → Nat) (κ : Kn) (Γ : Nat → Option Fn) : Prop :=
  ∀ f fn, Γ f = some fn → (∃ g, P.funcs[ρ f]? = some g ∧ okFn P ρ g fn = true) ∧ ∀ o, fn.given = some o → Known P ρ κ (ρ f) o
theorem Table.bodies {ρ : Nat → Nat} {κ : Kn} {Γ : Nat → Option Fn} (h : Table P ρ κ Γ) : Bodies P ρ Γ := by
  intro f fn hf
  obtain ⟨⟨g, h1, h2⟩, _⟩ := h f fn hf
  simp only [okFn, Bool.and_eq_true] at h2
  obtain ⟨⟨h3, _⟩, h4⟩ := h2
  split at h3
  · rename_i c hc
    exact ⟨g, c, h1, hc, by simpa using h4⟩
  · cases h3
def okTab (P : Program) (ρ : Nat → Nat) : List (Nat × Fn) → Bool
  | [] => true
  | p :: r => (match P.funcs[ρ p.1]? with | some g => okFn P ρ g p.2 | none => false) && okTab P ρ r
theorem table_of {ρ : Nat → Nat} {κ : Kn} {tab gs : List (Nat × Fn)} (h : okTab P ρ (gs ++ tab) = true) (hn : (tab.all fun p => p.2.given.isNone) = true) (hg : ∀ p ∈ gs, ∀ o, p.2.given = some o → Known P ρ κ (ρ p.1) o) :
    Table P ρ κ (fun f => ((gs ++ tab).find? fun p => p.1 == f).map (·.2)) := by
  intro f fn hf
  simp only [Option.map_eq_some_iff] at hf
  obtain ⟨⟨k, fn'⟩, h1, rfl⟩ := hf
  have hm := List.mem_of_find?_eq_some h1
  have hk : k = f := by simpa using List.find?_some h1
  subst hk
  clear h1
  refine ⟨?_, fun o ho => ?_⟩
  · generalize gs ++ tab = tab at h hm
    induction tab with
    | nil => cases hm
    | cons p r ih =>
      simp only [okTab, Bool.and_eq_true] at h
      rcases List.mem_cons.1 hm with rfl | hm
      · have h2 := h.1
        split at h2
        · rename_i g hg; exact ⟨g, hg, h2⟩
        · cases h2
      · exact ih h.2 hm
  · rcases List.mem_append.1 hm with hm | hm
    · exact hg _ hm o ho
    · have := List.all_eq_true.1 hn _ hm
      rw [ho] at this
      cases this
theorem callN_sound {ρ : Nat → Nat} {κ : Kn} {Γ : Nat → Option Fn} (hm : P.follows .mixedOrders = true) (hT : Table P ρ κ Γ) : ∀ k, Sound P ρ κ (callN Γ k)
  | 0 => fun f as r h => by cases h
  | k + 1 => by
    intro f as r h w vs rs ha hk1 hk2 hk3
    have ih := callN_sound hm hT k
    simp only [callN] at h
    rw [obs] at h
    obtain ⟨fn, hfn, h⟩ := h
    cases hgv : fn.given with
    | some o =>
      rw [hgv] at h
      exact (hT f fn hfn).2 o hgv as r h w vs rs ha hk1.1 hk2 hk3
    | none =>
    rw [hgv] at h
    simp only at h
    split at h
    · rw [obs] at h
      obtain ⟨⟨e, σ'⟩, hx, h⟩ := h
      obtain ⟨⟨g, hg, hok⟩, _⟩ := hT f fn hfn
      simp only [okFn, hgv, Option.isSome_none, Bool.false_or, Bool.and_eq_true] at hok
      obtain ⟨⟨h3, h4⟩, h5⟩ := hok
      split at h3
      · rename_i c hc
        refine calls_of_wp hg hc ?_
        refine exec_wp (X := { inner ρ w (some? rs) with κ := κ }) hm hT.bodies ih ha.apart k h3 (enter_holds ha hk1 hk2 hk3) hx fun a' w' h' => ?_
        obtain ⟨φ, h'⟩ := h'
        have fin : finish fn as σ' = some r → a'.defers = [] ∧ ∃ v, (results g a'.tmps).run P w' = .ok v w' ∧ ∃ u, Ending.returned v = .returned u ∧ ResRel w w' rs r u := by
          intro hf
          obtain ⟨v, h6, h7⟩ := finish_sim ha h' h4 hf
          exact ⟨h'.defers, v, h6, v, rfl, h7⟩
        cases e with
        | normal => exact fin h
        | ret => exact fin h
        | exit id => cases h
      · cases h3
    · cases h
end
end Go.DM
