/- A call: its arguments as a whole, what it has written, what comes back. -/
import Derived.Test.YtaocbbdkiemhaaaK357SimH
set_option linter.unusedSimpArgs false
set_option linter.unusedVariables false
namespace Go.DM
set_option linter.unusedSectionVars false
variable [Tok]
section
variable {P : Program} {X : Cx} {φ : Nat → Option Loc} {w : World} {σ : St} {a : Act}

/-- The region of an argument that the call may write. -/
def regOf (φ : Nat → Option Loc) (σ : St) (m : Bool) (v : V) : Option (Nat × Reg) :=
  match m, v with
  | true, .a (.ptr o 0) => match φ o, σ.objs o with | some l, some (.flat _ cs) => some (o, l.1, l.2, cs.length) | _, _ => none
  | true, .a (.sl o off n es) => match φ o with | some l => some (o, l.1, l.2 + off, n * es) | _ => none
  | _, _ => none
def regs (φ : Nat → Option Loc) (σ : St) : List Bool → List V → List (Option (Nat × Reg))
  | _, [] => []
  | m :: ms, v :: vs => regOf φ σ m v :: regs φ σ ms vs
  | [], v :: vs => none :: regs φ σ [] vs
def snds (rs : List (Option (Nat × Reg))) : List (Option Reg) := rs.map fun r => r.map (·.2)

theorem args_sim {B : Nat} {M Mt : List Reg} (h : Rel X B M φ σ a w) {ids : List Nat} (hc : Covers φ σ ids Mt) : ∀ {ms : List Bool} {vs : List V} {us : List Value} {as : List Arg},
    args σ ids ms vs = some as → All2 (VRel X φ w) vs us → as.length = us.length ∧ as.length = (regs φ σ ms vs).length ∧
    (∀ (i : Nat) (x : Arg) (v : Value) (r : Option (Nat × Reg)), as[i]? = some x → us[i]? = some v → (regs φ σ ms vs)[i]? = some r → ArgRel (inner X.ρ w Mt) w x v (r.map (·.2))) ∧
    (∀ (i : Nat) (r : Nat × Reg), (regs φ σ ms vs)[i]? = some (some r) → ∃ ob l, σ.objs r.1 = some ob ∧ φ r.1 = some l ∧ l.1 = r.2.1 ∧ ∃ p cs, ob = .flat p cs ∧ ∃ off, r.2.2.1 = l.2 + off ∧ off + r.2.2.2 ≤ cs.length)
  | ms, [], us, as, h1, h2 => by
    have : us = [] := h2.nil_left
    subst this
    have e : as = [] := by
      cases ms <;> (simp only [args] at h1; cases h1; rfl)
    subst e
    have e2 : regs φ σ ms [] = [] := by cases ms <;> rfl
    rw [e2]
    exact ⟨rfl, rfl, fun i x v r hx => by simp at hx, fun i r hr => by simp at hr⟩
  | [], v :: vs, us, as, h1, h2 => by
    obtain ⟨u, us', rfl, g1, g2⟩ := h2.head
    simp only [args] at h1
    rw [Option.bind_eq_some_iff] at h1
    obtain ⟨d, hd, h1⟩ := h1
    rw [Option.map_eq_some_iff] at h1
    obtain ⟨as', h3, rfl⟩ := h1
    obtain ⟨k1, k2, k3, k4⟩ := args_sim h hc h3 g2
    refine ⟨by simp [k1], by simp [regs, k2], fun i x v r hx hv hr => ?_, fun i r hr => ?_⟩
    · cases i with
      | zero =>
        simp [regs] at hx hv hr
        subst hx; subst hv; subst hr
        exact (toD_sim h hc depth).2 _ _ _ hd g1
      | succ i => exact k3 i x v r (by simpa using hx) (by simpa using hv) (by simpa [regs] using hr)
    · cases i with
      | zero => simp [regs] at hr
      | succ i => exact k4 i r (by simpa [regs] using hr)
  | m :: ms, v :: vs, us, as, h1, h2 => by
    obtain ⟨u, us', rfl, g1, g2⟩ := h2.head
    simp only [args] at h1
    rw [Option.bind_eq_some_iff] at h1
    obtain ⟨x0, hx0, h1⟩ := h1
    rw [Option.map_eq_some_iff] at h1
    obtain ⟨as', h3, rfl⟩ := h1
    obtain ⟨k1, k2, k3, k4⟩ := args_sim h hc h3 g2
    have key : ArgRel (inner X.ρ w Mt) w x0 u ((regOf φ σ m v).map (·.2)) ∧ (∀ r, regOf φ σ m v = some r → ∃ ob l, σ.objs r.1 = some ob ∧ φ r.1 = some l ∧ l.1 = r.2.1 ∧ ∃ p cs, ob = .flat p cs ∧ ∃ off, r.2.2.1 = l.2 + off ∧ off + r.2.2.2 ≤ cs.length) := by
      cases m with
      | false =>
        simp only [Bool.false_eq_true, if_false] at hx0
        rw [Option.map_eq_some_iff] at hx0
        obtain ⟨d, hd, rfl⟩ := hx0
        have e : regOf φ σ false v = none := by unfold regOf; split <;> simp_all
        rw [e]
        exact ⟨(toD_sim h hc depth).2 _ _ _ hd g1, fun r hr => by cases hr⟩
      | true =>
        simp only [if_true] at hx0
        rw [Option.map_eq_some_iff] at hx0
        obtain ⟨⟨x1, o1⟩, hw, rfl⟩ := hx0
        unfold writable at hw
        split at hw
        · rename_i o
          split at hw
          · rename_i p cs hob
            cases hw
            obtain ⟨l, e1, rfl⟩ := g1
            obtain ⟨l', e1', c, T, fz, q1, q2, q3⟩ := h.objs o _ hob
            rw [e1] at e1'; cases e1'
            have e : regOf φ σ true (.a (.ptr o 0)) = some (o, l.1, l.2, cs.length) := by simp [regOf, e1, hob]
            rw [e]
            refine ⟨⟨rfl, rfl, q3, c, T, fz, q1, q2⟩, fun r hr => ?_⟩
            cases hr
            exact ⟨_, l, hob, e1, rfl, p, cs, rfl, 0, rfl, by simp⟩
          · cases hw
        · rename_i o off n es
          split at hw
          · rename_i p cs hob
            split at hw
            · rename_i hle
              cases hw
              obtain ⟨l, ad, cap, e1, rfl, e3, e4, e5⟩ := g1
              obtain ⟨l', e1', c, T, fz, q1, q2, q3⟩ := h.objs o _ hob
              rw [e1] at e1'; cases e1'
              have e : regOf φ σ true (.a (.sl o off n es)) = some (o, l.1, l.2 + off, n * es) := by simp [regOf, e1]
              rw [e]
              have hlen : ((cs.drop off).take (n * es)).length = n * es := by rw [List.length_take, List.length_drop]; omega
              refine ⟨⟨ad, cap, rfl, e3, e4, e5, hlen.symm, hlen, rangeAt_sub q3 off (n * es), c, T, fz, q1, ?_⟩, fun r hr => ?_⟩
              · rw [hlen]; show l.2 + off + n * es ≤ c.size; omega
              · cases hr
                exact ⟨_, l, hob, e1, rfl, p, cs, rfl, off, rfl, hle⟩
            · cases hw
          · cases hw
        · cases hw
          have e : regOf φ σ true (.a (.d (.s .nils))) = none := rfl
          rw [e]
          refine ⟨?_, fun r hr => by cases hr⟩
          have g1' : DRel X.ρ X.I w (.s .nils) u := g1
          cases g1'
          exact DRel.s .nils
        · cases hw
    refine ⟨by simp [k1], by simp [regs, k2], fun i x v' r hx hv hr => ?_, fun i r hr => ?_⟩
    · cases i with
      | zero =>
        simp [regs] at hx hv hr
        subst hx; subst hv; subst hr
        exact key.1
      | succ i => exact k3 i x v' r (by simpa using hx) (by simpa using hv) (by simpa [regs] using hr)
    · cases i with
      | zero => exact key.2 r (by simpa [regs] using hr)
      | succ i => exact k4 i r (by simpa [regs] using hr)

theorem regOf_ptr {o off : Nat} {r : Nat × Reg} (h : regOf φ σ true (.a (.ptr o off)) = some r) : r.1 = o := by
  cases off with
  | zero =>
    simp only [regOf] at h
    split at h
    · cases h; rfl
    · cases h
  | succ off => simp [regOf] at h

theorem regOf_sl {o off n es : Nat} {r : Nat × Reg} (h : regOf φ σ true (.a (.sl o off n es)) = some r) : r.1 = o := by
  simp only [regOf] at h
  split at h
  · cases h; rfl
  · cases h

/-- The objects of the regions are among those that the call may write, each once. -/
theorem regs_ids : ∀ {ms : List Bool} {vs : List V}, nodup (mutIds ms vs) = true →
    (∀ (i : Nat) (r : Nat × Reg), (regs φ σ ms vs)[i]? = some (some r) → (mutIds ms vs).contains r.1 = true) ∧
    (∀ (i j : Nat) (r r' : Nat × Reg), (regs φ σ ms vs)[i]? = some (some r) → (regs φ σ ms vs)[j]? = some (some r') → r.1 = r'.1 → i = j)
  | ms, [], h => by
    have e2 : regs φ σ ms [] = [] := by cases ms <;> rfl
    rw [e2]
    exact ⟨fun i r hr => by simp at hr, fun i j r r' hr => by simp at hr⟩
  | [], v :: vs, h => by
    have e : ∀ (vs : List V) (i : Nat) (r : Nat × Reg), (regs φ σ [] vs)[i]? ≠ some (some r) := by
      intro vs
      induction vs with
      | nil => intro i r hr; simp [regs] at hr
      | cons v vs ih =>
        intro i r hr
        cases i with
        | zero => simp [regs] at hr
        | succ i => exact ih i r (by simpa [regs] using hr)
    exact ⟨fun i r hr => (e _ i r hr).elim, fun i j r r' hr => (e _ i r hr).elim⟩
  | m :: ms, v :: vs, h => by
    -- the head's object, if it has one
    have hd : (∃ o, mutIds (m :: ms) (v :: vs) = o :: mutIds ms vs ∧ ∀ r, regOf φ σ m v = some r → r.1 = o) ∨ (mutIds (m :: ms) (v :: vs) = mutIds ms vs ∧ regOf φ σ m v = none) := by
      cases m with
      | false =>
        right
        refine ⟨by simp [mutIds], ?_⟩
        unfold regOf; split <;> simp_all
      | true =>
        cases v with
        | a x =>
          cases x with
          | ptr o off =>
            left
            exact ⟨o, rfl, fun r hr => regOf_ptr hr⟩
          | sl o off n es =>
            left
            exact ⟨o, rfl, fun r hr => regOf_sl hr⟩
          | _ => right; exact ⟨rfl, rfl⟩
        | _ => right; exact ⟨rfl, rfl⟩
    rcases hd with ⟨o, e1, e2⟩ | ⟨e1, e2⟩
    · rw [e1] at h ⊢
      simp only [nodup, Bool.and_eq_true] at h
      obtain ⟨ih1, ih2⟩ := regs_ids h.2
      refine ⟨fun i r hr => ?_, fun i j r r' hr hr' he => ?_⟩
      · cases i with
        | zero =>
          have := e2 r (by simpa [regs] using hr)
          simp [this]
        | succ i =>
          have := ih1 i r (by simpa [regs] using hr)
          simp only [List.contains_cons, Bool.or_eq_true]
          exact .inr this
      · cases i with
        | zero =>
          cases j with
          | zero => rfl
          | succ j =>
            have h1 := e2 r (by simpa [regs] using hr)
            have h2 := ih1 j r' (by simpa [regs] using hr')
            rw [← he, h1] at h2
            have h3 := h.1
            rw [h2] at h3
            cases h3
        | succ i =>
          cases j with
          | zero =>
            have h1 := e2 r' (by simpa [regs] using hr')
            have h2 := ih1 i r (by simpa [regs] using hr)
            rw [he, h1] at h2
            have h3 := h.1
            rw [h2] at h3
            cases h3
          | succ j => rw [ih2 i j r r' (by simpa [regs] using hr) (by simpa [regs] using hr') he]
    · rw [e1] at h ⊢
      obtain ⟨ih1, ih2⟩ := regs_ids h
      refine ⟨fun i r hr => ?_, fun i j r r' hr hr' he => ?_⟩
      · cases i with
        | zero => simp [regs, e2] at hr
        | succ i => exact ih1 i r (by simpa [regs] using hr)
      · cases i with
        | zero => simp [regs, e2] at hr
        | succ i =>
          cases j with
          | zero => simp [regs, e2] at hr'
          | succ j => rw [ih2 i j r r' (by simpa [regs] using hr) (by simpa [regs] using hr') he]

theorem some?_mem {α : Type} {l : List (Option α)} {x : α} : x ∈ some? l ↔ ∃ i : Nat, l[i]? = some (some x) := by
  simp only [some?, List.mem_filterMap, id_eq, exists_eq_right]
  constructor
  · intro h
    obtain ⟨i, hi⟩ := List.mem_iff_getElem?.1 h
    exact ⟨i, hi⟩
  · rintro ⟨i, hi⟩
    exact List.mem_of_getElem? hi

theorem snds_get {rs : List (Option (Nat × Reg))} {i : Nat} {m : Reg} (h : (snds rs)[i]? = some (some m)) : ∃ o, rs[i]? = some (some (o, m)) := by
  rw [snds, List.getElem?_map, Option.map_eq_some_iff] at h
  obtain ⟨r, h1, h2⟩ := h
  cases r with
  | none => cases h2
  | some r =>
    cases h2
    exact ⟨r.1, h1⟩

/-- The arguments of a call stand as the callee wants them. -/
theorem argsRel {B : Nat} {M : List Reg} (h : Rel X B M φ σ a w) {ms : List Bool} {vs : List V} {us : List Value} {as : List Arg} (hn : nodup (mutIds ms vs) = true)
    (ha : args σ (mutIds ms vs) ms vs = some as) (hv : All2 (VRel X φ w) vs us) : ArgsRel X.ρ w as us (snds (regs φ σ ms vs)) := by
  obtain ⟨r1, r2⟩ := regs_ids (φ := φ) (σ := σ) hn
  -- first without knowing which blocks: the regions are those of the objects
  have hc : Covers φ σ (mutIds ms vs) (some? (snds (regs φ σ ms vs))) := by
    intro m hm
    obtain ⟨i, hi⟩ := some?_mem.1 hm
    obtain ⟨o, ho⟩ := snds_get hi
    obtain ⟨_, _, _, k4⟩ := args_sim (Mt := []) h (ids := mutIds ms vs) (fun m hm => by cases hm) ha hv
    obtain ⟨ob, l, g1, g2, g3, _⟩ := k4 i _ ho
    exact ⟨o, ob, l, r1 i _ ho, g1, g2, g3⟩
  obtain ⟨k1, k2, k3, k4⟩ := args_sim h hc ha hv
  refine ⟨k1, by simp [snds, k2], ?_, ⟨?_, ?_⟩, ?_⟩
  · intro i x v r hx hv' hr
    simp only [snds, List.getElem?_map, Option.map_eq_some_iff] at hr
    obtain ⟨r', h1, rfl⟩ := hr
    exact k3 i x v r' hx hv' h1
  · intro m hm
    obtain ⟨o, ob, l, _, g2, g3, g4⟩ := hc m hm
    rw [← g4]
    exact (h.own o ob l g2 g3).2.1
  · intro m hm m' hm' e
    obtain ⟨i, hi⟩ := some?_mem.1 hm
    obtain ⟨j, hj⟩ := some?_mem.1 hm'
    obtain ⟨o, ho⟩ := snds_get hi
    obtain ⟨o', ho'⟩ := snds_get hj
    obtain ⟨ob, l, g1, g2, g3, _⟩ := k4 i _ ho
    obtain ⟨ob', l', g1', g2', g3', _⟩ := k4 j _ ho'
    have e0 := h.inj o o' ob ob' l l' g1 g1' g2 g2' (g3.trans (e.trans g3'.symm))
    have := r2 i j _ _ ho ho' e0
    subst this
    rw [hi] at hj; cases hj
    rfl
  · intro i j m m' hi hj e
    obtain ⟨o, ho⟩ := snds_get hi
    obtain ⟨o', ho'⟩ := snds_get hj
    obtain ⟨ob, l, g1, g2, g3, _⟩ := k4 i _ ho
    obtain ⟨ob', l', g1', g2', g3', _⟩ := k4 j _ ho'
    exact r2 i j _ _ ho ho' (h.inj o o' ob ob' l l' g1 g1' g2 g2' (g3.trans (e.trans g3'.symm)))
end
end Go.DM
