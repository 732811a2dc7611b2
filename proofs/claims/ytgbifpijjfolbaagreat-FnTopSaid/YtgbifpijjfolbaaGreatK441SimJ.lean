/- A call: what it has done. -/
import Derived.Test.YtgbifpijjfolbaaGreatK441SimI
set_option linter.all false
namespace Go.DM
variable [Tok]
section
variable {P : Program} {X : Cx} {φ : Nat → Option Loc} {w w' : World} {σ : St} {a : Act}
abbrev OutRel (w : World) (m : Reg) (cs : List S) : Prop := cs.length = m.2.2 ∧ w.rangeAt m.1 m.2.1 (encs cs)
theorem backs_sim {ids : List Nat} : ∀ {ms : List Bool} {vs : List V} {us : List Value} {as : List Arg} {outs : List (List S)} {ps : List (Nat × Ob)},
    args σ ids ms vs = some as → All2 (VRel X φ w) vs us → All2 (OutRel w') (some? (snds (regs φ σ ms vs))) outs → backs σ ms vs outs = some ps →
    (∀ o ob, (o, ob) ∈ ps → ∃ p old l off c, σ.objs o = some (.flat p old) ∧ φ o = some l ∧ ob = .flat p (old.take off ++ c ++ old.drop (off + c.length)) ∧ off + c.length ≤ old.length ∧
      (l.1, l.2 + off, c.length) ∈ some? (snds (regs φ σ ms vs)) ∧ w'.rangeAt l.1 (l.2 + off) (encs c)) ∧
    (∀ m ∈ some? (snds (regs φ σ ms vs)), ∃ o ob, (o, ob) ∈ ps ∧ ∃ l, φ o = some l ∧ l.1 = m.1) ∧
    (∀ o ob, (o, ob) ∈ ps → (mutIds ms vs).contains o = true)
  | ms, [], us, as, outs, ps, h1, h2, h3, h4 => by
    have e2 : regs φ σ ms [] = [] := by cases ms <;> rfl
    rw [e2] at h3 ⊢
    have : outs = [] := h3.nil_left
    subst this
    have : ps = [] := by
      cases ms with
      | nil => simp only [backs] at h4; cases h4; rfl
      | cons m ms => cases m <;> (simp only [backs] at h4; cases h4; rfl)
    subst this
    exact ⟨fun o ob h => (nomatch h), fun m h => by simp [snds, some?] at h, fun o ob h => (nomatch h)⟩
  | [], v :: vs, us, as, outs, ps, h1, h2, h3, h4 => by
    have e : ∀ vs : List V, some? (snds (regs φ σ [] vs)) = [] := by
      intro vs
      induction vs with
      | nil => rfl
      | cons v vs ih => simpa [regs, snds, some?] using ih
    rw [e] at h3 ⊢
    have : outs = [] := h3.nil_left
    subst this
    simp only [backs] at h4
    cases h4
    exact ⟨fun o ob h => (nomatch h), fun m h => by simp at h, fun o ob h => (nomatch h)⟩
  | m :: ms, v :: vs, us, as, outs, ps, h1, h2, h3, h4 => by
    obtain ⟨u, us', rfl, g1, g2⟩ := h2.head
    simp only [args] at h1
    rw [obs] at h1
    obtain ⟨x0, hx0, h1⟩ := h1
    rw [Option.map_eq_some_iff] at h1
    obtain ⟨as', h1, rfl⟩ := h1
    -- no region here
    have skip : regOf φ σ m v = none → backs σ (m :: ms) (v :: vs) outs = backs σ ms vs outs → mutIds (m :: ms) (v :: vs) = mutIds ms vs →
        (∀ o ob, (o, ob) ∈ ps → ∃ p old l off c, σ.objs o = some (.flat p old) ∧ φ o = some l ∧ ob = .flat p (old.take off ++ c ++ old.drop (off + c.length)) ∧ off + c.length ≤ old.length ∧
          (l.1, l.2 + off, c.length) ∈ some? (snds (regs φ σ (m :: ms) (v :: vs))) ∧ w'.rangeAt l.1 (l.2 + off) (encs c)) ∧
        (∀ m' ∈ some? (snds (regs φ σ (m :: ms) (v :: vs))), ∃ o ob, (o, ob) ∈ ps ∧ ∃ l, φ o = some l ∧ l.1 = m'.1) ∧
        (∀ o ob, (o, ob) ∈ ps → (mutIds (m :: ms) (v :: vs)).contains o = true) := by
      intro e1 e2 e3
      have e4 : some? (snds (regs φ σ (m :: ms) (v :: vs))) = some? (snds (regs φ σ ms vs)) := by simp [regs, e1, snds, some?]
      rw [e2] at h4
      rw [e4] at h3 ⊢
      rw [e3]
      exact backs_sim h1 g2 h3 h4
    -- one region
    have one : ∀ (o : Nat) (l : Loc) (off n : Nat) (p : Bool) (old : List S), φ o = some l → σ.objs o = some (.flat p old) → off + n ≤ old.length → regOf φ σ m v = some (o, l.1, l.2 + off, n) → mutIds (m :: ms) (v :: vs) = o :: mutIds ms vs →
        (∀ c cs, c.length = n → backs σ (m :: ms) (v :: vs) (c :: cs) = (backs σ ms vs cs).map ((o, Ob.flat p (old.take off ++ c ++ old.drop (off + c.length))) :: ·)) →
        (∀ o ob, (o, ob) ∈ ps → ∃ p old l off c, σ.objs o = some (.flat p old) ∧ φ o = some l ∧ ob = .flat p (old.take off ++ c ++ old.drop (off + c.length)) ∧ off + c.length ≤ old.length ∧
          (l.1, l.2 + off, c.length) ∈ some? (snds (regs φ σ (m :: ms) (v :: vs))) ∧ w'.rangeAt l.1 (l.2 + off) (encs c)) ∧
        (∀ m' ∈ some? (snds (regs φ σ (m :: ms) (v :: vs))), ∃ o ob, (o, ob) ∈ ps ∧ ∃ l, φ o = some l ∧ l.1 = m'.1) ∧
        (∀ o ob, (o, ob) ∈ ps → (mutIds (m :: ms) (v :: vs)).contains o = true) := by
      intro o l off n p old e1 e2 e3 e4 e5 e6
      have e7 : some? (snds (regs φ σ (m :: ms) (v :: vs))) = (l.1, l.2 + off, n) :: some? (snds (regs φ σ ms vs)) := by simp [regs, e4, snds, some?]
      rw [e7] at h3 ⊢
      obtain ⟨c, cs, rfl, k1, k2⟩ := h3.head
      have hcl : c.length = n := k1.1
      rw [e6 c cs hcl] at h4
      rw [Option.map_eq_some_iff] at h4
      obtain ⟨ps', h5, rfl⟩ := h4
      obtain ⟨q1, q2, q3⟩ := backs_sim h1 g2 k2 h5
      refine ⟨fun o' ob' hm => ?_, fun m' hm => ?_, fun o' ob' hm => ?_⟩
      · rcases List.mem_cons.1 hm with h | h
        · cases h
          exact ⟨p, old, l, off, c, e2, e1, rfl, by omega, by rw [hcl]; exact List.mem_cons_self .., k1.2⟩
        · obtain ⟨p', old', l', off', c', r1, r2, r3, r4, r5, r6⟩ := q1 o' ob' h
          exact ⟨p', old', l', off', c', r1, r2, r3, r4, List.mem_cons_of_mem _ r5, r6⟩
      · rcases List.mem_cons.1 hm with h | h
        · subst h
          exact ⟨o, _, List.mem_cons_self .., l, e1, rfl⟩
        · obtain ⟨o', ob', r1, r2⟩ := q2 m' h
          exact ⟨o', ob', List.mem_cons_of_mem _ r1, r2⟩
      · rw [e5]
        rcases List.mem_cons.1 hm with h | h
        · cases h; simp
        · simp only [List.contains_cons, Bool.or_eq_true]; exact .inr (q3 o' ob' h)
    cases m with
    | false => exact skip (by unfold regOf; split <;> simp_all) (by cases outs <;> simp [backs]) rfl
    | true =>
      simp only [if_true] at hx0
      rw [Option.map_eq_some_iff] at hx0
      obtain ⟨⟨x1, o1⟩, hw, rfl⟩ := hx0
      unfold writable at hw
      split at hw
      · rename_i o
        split at hw
        · rename_i p cs hob
          obtain ⟨l, e1, rfl⟩ := g1
          refine one o l 0 cs.length p cs e1 hob (by omega) (by simp [regOf, e1, hob]) rfl (fun c cs' hc => ?_)
          simp only [backs, hob, hc, if_true, List.take_zero, List.nil_append, Nat.zero_add]
          rw [List.drop_eq_nil_of_le (by omega)]
          simp
        · cases hw
      · rename_i o off n es
        split at hw
        · rename_i p cs hob
          split at hw
          · rename_i hle
            obtain ⟨l, ad, cap, e1, rfl, _⟩ := g1
            refine one o l off (n * es) p cs e1 hob hle (by simp [regOf, e1]) rfl (fun c cs' hc => ?_)
            simp only [backs, hob, hc, hle, true_and, if_true, and_self]
          · cases hw
        · cases hw
      · exact skip rfl (by cases outs <;> simp [backs]) rfl
      · cases hw
theorem regs_get : ∀ {ms : List Bool} {vs : List V} {i : Nat} {r : Nat × Reg}, (regs φ σ ms vs)[i]? = some (some r) → ∃ v, vs[i]? = some v ∧ regOf φ σ true v = some r
  | ms, [], i, r, h => by
    have e2 : regs φ σ ms [] = [] := by cases ms <;> rfl
    rw [e2] at h; simp at h
  | [], v :: vs, i, r, h => by
    cases i with
    | zero => simp [regs] at h
    | succ i =>
      obtain ⟨v', h1, h2⟩ := regs_get (ms := []) (vs := vs) (i := i) (by simpa [regs] using h)
      exact ⟨v', by simpa using h1, h2⟩
  | m :: ms, v :: vs, i, r, h => by
    cases i with
    | zero =>
      have h' : regOf φ σ m v = some r := by simpa [regs] using h
      cases m with
      | false =>
        have : regOf φ σ false v = none := by unfold regOf; split <;> simp_all
        rw [this] at h'; cases h'
      | true => exact ⟨v, rfl, h'⟩
    | succ i =>
      obtain ⟨v', h1, h2⟩ := regs_get (ms := ms) (vs := vs) (i := i) (by simpa [regs] using h)
      exact ⟨v', by simpa using h1, h2⟩
theorem retV_sim {ms : List Bool} {vs : List V} {id : Nat} {r : Ret} {x : A} {news : List (Nat × Ob)} {u : Value} {b : Option Nat} (h : retV vs id r = some (x, news)) (hr : RetRel w w' (snds (regs φ σ ms vs)) r u b) :
    ∃ ls : List (Nat × Loc), (∀ p ∈ ls, ∀ q ∈ ls, p.1 = q.1 → p = q) ∧ (∀ p ∈ ls, ∃ b', b = some b' ∧ p.2.1 = b' ∧ p.1 = id) ∧
      (∀ i ob, (i, ob) ∈ news → ∃ l, (i, l) ∈ ls ∧ (∀ φ2, ObRel X φ2 w' ob l) ∧ w.heap.size ≤ l.1 ∧ l.1 < w'.heap.size ∧ parLen ob = none) ∧
      (∀ p ∈ ls, ∃ ob, (p.1, ob) ∈ news) ∧
      (∀ φ2 : Nat → Option Loc, (∀ p ∈ ls, φ2 p.1 = some p.2) → (∀ o, (∃ (i : Nat) (m : Reg), (regs φ σ ms vs)[i]? = some (some (o, m))) → φ2 o = φ o) → ARel X φ2 w' x u) := by
  cases r with
  | s y =>
    cases h
    cases b with
    | some b => exact hr.elim
    | none =>
      have hr : u = enc y := hr
      subst hr
      exact ⟨[], fun p hp => (nomatch hp), fun p hp => (nomatch hp), fun i ob hp => (nomatch hp), fun p hp => (nomatch hp), fun _ _ _ => DRel.s y⟩
  | agg cs =>
    cases h
    cases b with
    | some b => exact hr.elim
    | none =>
      have hr : u = .agg (encs cs).toArray := hr
      subst hr
      exact ⟨[], fun p hp => (nomatch hp), fun p hp => (nomatch hp), fun i ob hp => (nomatch hp), fun p hp => (nomatch hp), fun _ _ _ => DRel.agg cs⟩
  | own n es cs =>
    cases h
    cases b with
    | none => exact hr.elim
    | some b =>
      obtain ⟨base, ad, cap, rfl, h1, h2, h3, h4, h5, h6⟩ := hr
      refine ⟨[(id, b, base)], fun p hp q hq _ => ?_, fun p hp => ?_, fun i ob hp => ?_, fun p hp => ?_, fun φ2 hφ _ => ?_⟩
      · simp at hp hq; rw [hp, hq]
      · simp at hp; subst hp; exact ⟨b, rfl, rfl, rfl⟩
      · simp at hp
        obtain ⟨rfl, rfl⟩ := hp
        exact ⟨(b, base), by simp, fun φ2 => h6, h1, h2, rfl⟩
      · simp at hp; subst hp; exact ⟨_, List.mem_cons_self ..⟩
      · have := hφ (id, b, base) (by simp)
        exact ⟨(b, base), ad, cap, this, rfl, h3, fun hc => h4 hc, h5⟩
  | ownp cs =>
    cases h
    cases b with
    | none => exact hr.elim
    | some b =>
      obtain ⟨base, rfl, h1, h2, h6⟩ := hr
      refine ⟨[(id, b, base)], fun p hp q hq _ => ?_, fun p hp => ?_, fun i ob hp => ?_, fun p hp => ?_, fun φ2 hφ _ => ?_⟩
      · simp at hp hq; rw [hp, hq]
      · simp at hp; subst hp; exact ⟨b, rfl, rfl, rfl⟩
      · simp at hp
        obtain ⟨rfl, rfl⟩ := hp
        exact ⟨(b, base), by simp, fun φ2 => h6, h1, h2, rfl⟩
      · simp at hp; subst hp; exact ⟨_, List.mem_cons_self ..⟩
      · have := hφ (id, b, base) (by simp)
        exact ⟨(b, base), this, rfl⟩
  | ownm ks es =>
    cases h
    cases b with
    | none => exact hr.elim
    | some b =>
      obtain ⟨rfl, h1, h2, h6⟩ := hr
      refine ⟨[(id, b, 0)], fun p hp q hq _ => ?_, fun p hp => ?_, fun i ob hp => ?_, fun p hp => ?_, fun φ2 hφ _ => ?_⟩
      · simp at hp hq; rw [hp, hq]
      · simp at hp; subst hp; exact ⟨b, rfl, rfl, rfl⟩
      · simp at hp
        obtain ⟨rfl, rfl⟩ := hp
        exact ⟨(b, 0), by simp, fun φ2 => h6, h1, h2, rfl⟩
      · simp at hp; subst hp; exact ⟨_, List.mem_cons_self ..⟩
      · have := hφ (id, b, 0) (by simp)
        exact ⟨(b, 0), this, rfl⟩
  | par i off n es =>
    cases b with
    | some b => exact hr.elim
    | none =>
      obtain ⟨m, ad, cap, g1, rfl, g3, g4, g5⟩ := hr
      obtain ⟨o, ho⟩ := snds_get g1
      obtain ⟨v, hv1, hv2⟩ := regs_get ho
      simp only [retV, hv1] at h
      split at h
      · rename_i o' off' n' es' heq
        cases heq
        cases h
        have e := regOf_sl hv2
        simp only at e
        subst e
        simp only [regOf] at hv2
        split at hv2
        · rename_i l hl
          cases hv2
          refine ⟨[], fun p hp => (nomatch hp), fun p hp => (nomatch hp), fun i ob hp => (nomatch hp), fun p hp => (nomatch hp), fun φ2 _ hφ => ?_⟩
          refine ⟨l, ad, cap, by rw [hφ _ ⟨i, _, ho⟩]; exact hl, rfl, g3, fun hc => by rw [g4 hc]; simp only; omega, ?_⟩
          have : l.2 + (off' + off) + cap * es = l.2 + off' + off + cap * es := by omega
          rw [this]
          exact g5
        · cases hv2
      · cases h
theorem retVs_sim {ms : List Bool} {vs : List V} {dst : Nat} : ∀ {i : Nat} {rs : List Ret} {xs : List A} {news : List (Nat × Ob)} {us : List Value} {bs : List (Option Nat)}, retVs vs dst i rs = some (xs, news) →
    rs.length = us.length → rs.length = bs.length →
    (∀ (j : Nat) (x : Ret) (u : Value) (b : Option Nat), rs[j]? = some x → us[j]? = some u → bs[j]? = some b → RetRel w w' (snds (regs φ σ ms vs)) x u b) →
    ∃ ls : List (Nat × Loc), (∀ p ∈ ls, ∀ q ∈ ls, p.1 = q.1 → p = q) ∧ (∀ p ∈ ls, ∃ j b', bs[j]? = some (some b') ∧ p.2.1 = b' ∧ p.1 = 1000 * (i + j + 1) + dst) ∧
      (∀ i ob, (i, ob) ∈ news → ∃ l, (i, l) ∈ ls ∧ (∀ φ2, ObRel X φ2 w' ob l) ∧ w.heap.size ≤ l.1 ∧ l.1 < w'.heap.size ∧ parLen ob = none) ∧
      (∀ p ∈ ls, ∃ ob, (p.1, ob) ∈ news) ∧
      (∀ φ2 : Nat → Option Loc, (∀ p ∈ ls, φ2 p.1 = some p.2) → (∀ o, (∃ (i : Nat) (m : Reg), (regs φ σ ms vs)[i]? = some (some (o, m))) → φ2 o = φ o) → All2 (ARel X φ2 w') xs us)
  | i, [], xs, news, us, bs, h, h1, h2, h3 => by
    cases h
    have : us = [] := List.eq_nil_of_length_eq_zero h1.symm
    subst this
    exact ⟨[], fun p hp => (nomatch hp), fun p hp => (nomatch hp), fun i ob hp => (nomatch hp), fun p hp => (nomatch hp), fun _ _ _ => .nil⟩
  | i, r :: rs, xs, news, us, bs, h, h1, h2, h3 => by
    simp only [retVs] at h
    rw [obs] at h
    obtain ⟨⟨x, n1⟩, hx, h⟩ := h
    rw [Option.map_eq_some_iff] at h
    obtain ⟨⟨xs', n2⟩, hxs, h⟩ := h
    cases h
    cases us with
    | nil => simp at h1
    | cons u us =>
      cases bs with
      | nil => simp at h2
      | cons b bs =>
        obtain ⟨l1, a0, a1, a2, a2', a3⟩ := retV_sim (X := X) hx (h3 0 r u b rfl rfl rfl)
        obtain ⟨l2, b0, b1, b2, b2', b3⟩ := retVs_sim hxs (by simpa using h1) (by simpa using h2) (fun j x u b hx hu hb => h3 (j + 1) x u b (by simpa using hx) (by simpa using hu) (by simpa using hb))
        refine ⟨l1 ++ l2, fun p hp q hq e => ?_, fun p hp => ?_, fun j ob hp => ?_, fun p hp => ?_, fun φ2 hφ1 hφ2 => ?_⟩
        · rcases List.mem_append.1 hp with hp | hp <;> rcases List.mem_append.1 hq with hq | hq
          · exact a0 p hp q hq e
          · obtain ⟨_, _, _, e1⟩ := a1 p hp
            obtain ⟨_, _, _, _, e2⟩ := b1 q hq
            omega
          · obtain ⟨_, _, _, e1⟩ := a1 q hq
            obtain ⟨_, _, _, _, e2⟩ := b1 p hp
            omega
          · exact b0 p hp q hq e
        · rcases List.mem_append.1 hp with hp | hp
          · obtain ⟨b', rfl, e1, e2⟩ := a1 p hp
            exact ⟨0, b', rfl, e1, by rw [e2]⟩
          · obtain ⟨j, b', e0, e1, e2⟩ := b1 p hp
            exact ⟨j + 1, b', by simpa using e0, e1, by rw [e2]; congr 2; omega⟩
        · rcases List.mem_append.1 hp with hp | hp
          · obtain ⟨l, e1, e2⟩ := a2 j ob hp
            exact ⟨l, List.mem_append_left _ e1, e2⟩
          · obtain ⟨l, e1, e2⟩ := b2 j ob hp
            exact ⟨l, List.mem_append_right _ e1, e2⟩
        · rcases List.mem_append.1 hp with hp | hp
          · obtain ⟨ob, e⟩ := a2' p hp
            exact ⟨ob, List.mem_append_left _ e⟩
          · obtain ⟨ob, e⟩ := b2' p hp
            exact ⟨ob, List.mem_append_right _ e⟩
        · exact .cons (a3 φ2 (fun p hp => hφ1 p (List.mem_append_left _ hp)) hφ2) (b3 φ2 (fun p hp => hφ1 p (List.mem_append_right _ hp)) hφ2)
theorem lookP_mem : ∀ {ps : List (Nat × Ob)} {o : Nat} {ob : Ob}, lookP ps o = some ob → (o, ob) ∈ ps
  | [], o, ob, h => by cases h
  | p :: ps, o, ob, h => by
    simp only [lookP] at h
    cases hl : lookP ps o with
    | some x =>
      rw [hl] at h; cases h
      exact List.mem_cons_of_mem _ (lookP_mem hl)
    | none =>
      rw [hl] at h
      by_cases e : p.1 = o
      · simp only [e, if_true, Option.some.injEq] at h
        subst h; subst e
        exact List.mem_cons_self ..
      · simp [e] at h
theorem mem_lookP : ∀ {ps : List (Nat × Ob)} {o : Nat} {ob : Ob}, (o, ob) ∈ ps → (lookP ps o).isSome = true
  | p :: ps, o, ob, h => by
    simp only [lookP]
    cases hl : lookP ps o with
    | some x => rfl
    | none =>
      rcases List.mem_cons.1 h with h | h
      · cases h; simp
      · have := mem_lookP h
        rw [hl] at this; cases this
theorem call_does {B : Nat} {M : List Reg} (h : Rel X B M φ σ a w) {ms : List Bool} {vs : List V} {us : List Value} {as : List Arg} {r : Res} {ps news : List (Nat × Ob)} {v : Value} {V0 : V} {ls : List (Nat × Loc)} {bs : List (Option Nat)}
    (ha : args σ (mutIds ms vs) ms vs = some as) (hv : All2 (VRel X φ w) vs us) (hleft : Left (some? (snds (regs φ σ ms vs))) w w')
    (houts : All2 (OutRel w') (some? (snds (regs φ σ ms vs))) r.outs) (hb : backs σ ms vs r.outs = some ps)
    (hd : ∀ p ∈ news, ∀ q ∈ ps, p.1 ≠ q.1)
    (l0 : ∀ p ∈ ls, ∀ q ∈ ls, p.1 = q.1 → p = q) (l1 : ∀ p ∈ ls, ∀ q ∈ ls, p.2.1 = q.2.1 → p.1 = q.1)
    (l2 : ∀ i ob, (i, ob) ∈ news → ∃ l, (i, l) ∈ ls ∧ (∀ φ2, ObRel X φ2 w' ob l) ∧ w.heap.size ≤ l.1 ∧ l.1 < w'.heap.size ∧ parLen ob = none) (l3 : ∀ p ∈ ls, ∃ ob, (p.1, ob) ∈ news)
    (hval : ∀ φ2 : Nat → Option Loc, (∀ p ∈ ls, φ2 p.1 = some p.2) → (∀ o, (∃ (i : Nat) (m : Reg), (regs φ σ ms vs)[i]? = some (some (o, m))) → φ2 o = φ o) → VRel X φ2 w' V0 v) (hmut : nodup (mutIds ms vs) = true)
    (hdm : ∀ p ∈ news, ∀ (i o : Nat) (m : Reg), (regs φ σ ms vs)[i]? = some (some (o, m)) → p.1 ≠ o) :
    ∃ φ', Does X σ { v := V0, kills := news.map (·.1), puts := ps ++ news } φ φ' w w' v := by
  obtain ⟨A, Bk, _⟩ := backs_sim ha hv houts hb
  let φ' : Nat → Option Loc := fun o => match ls.find? (fun p => p.1 == o) with | some p => some p.2 | none => φ o
  have f1 : ∀ p ∈ ls, φ' p.1 = some p.2 := by
    intro p hp
    show (match ls.find? (fun q => q.1 == p.1) with | some p => some p.2 | none => φ p.1) = some p.2
    cases hf : ls.find? (fun q => q.1 == p.1) with
    | none => exact absurd (List.find?_eq_none.1 hf p hp) (by simp)
    | some q =>
      have h1 := List.mem_of_find?_eq_some hf
      have h2 := List.find?_some hf
      have := l0 q h1 p hp (by simpa using h2)
      rw [this]
  have f2 : ∀ o, (news.map (·.1)).contains o = false → φ' o = φ o := by
    intro o ho
    show (match ls.find? (fun q => q.1 == o) with | some p => some p.2 | none => φ o) = φ o
    cases hf : ls.find? (fun q => q.1 == o) with
    | none => rfl
    | some q =>
      have h1 := List.mem_of_find?_eq_some hf
      have h2 : q.1 = o := by simpa using List.find?_some hf
      obtain ⟨ob, h3⟩ := l3 q h1
      have : (news.map (·.1)).contains o = true := by
        simp only [List.contains_iff_mem, List.mem_map]
        exact ⟨_, h3, h2⟩
      rw [this] at ho; cases ho
  have f3 : ∀ o ob, (o, ob) ∈ ps → (news.map (·.1)).contains o = false := by
    intro o ob hm
    cases hc : (news.map (·.1)).contains o with
    | false => rfl
    | true =>
      simp only [List.contains_iff_mem, List.mem_map] at hc
      obtain ⟨p, hp, e⟩ := hc
      exact (hd p hp (o, ob) hm e).elim
  have hnI : ∀ b, X.I b → Same w w' b := by
    intro b hb'
    refine hleft.same b (h.lt b hb') fun m hm e => ?_
    obtain ⟨o, ob, ho, l, e1, e2⟩ := Bk m hm
    obtain ⟨p, old, l', off, c, g1, g2, _⟩ := A o ob ho
    rw [e1] at g2; cases g2
    exact (h.own o _ l g1 e1).1 (by rw [e2, e]; exact hb')
  refine ⟨φ', hleft.os, hleft.tape, hleft.output, hleft.size, hleft.shape, f2, ?_, ?_, ?_, ?_, ?_⟩
  · intro b hb' hno
    refine hleft.same b hb' fun m hm e => ?_
    obtain ⟨o, ob, ho, l, e1, e2⟩ := Bk m hm
    obtain ⟨p, old, l', off, c, g1, g2, _⟩ := A o ob ho
    rw [e1] at g2; cases g2
    exact hno o _ l g1 (mem_lookP (List.mem_append_left _ ho)) e1 (e2.trans e)
  · intro o ob hl
    have hm := lookP_mem hl
    rcases List.mem_append.1 hm with hm | hm
    · obtain ⟨p, old, l, off, c, g1, g2, g3, g4, g5, g6⟩ := A o ob hm
      subst g3
      obtain ⟨l', e1', c0, T, fz, q1, q2, q3⟩ := h.objs o _ g1
      rw [g2] at e1'; cases e1'
      obtain ⟨c1, q4, q5⟩ := blk_keep q1 hleft.shape
      have hlen : (old.take off ++ c ++ old.drop (off + c.length)).length = old.length := by
        simp only [List.length_append, List.length_take, List.length_drop]; omega
      have hlt := (h.own o _ l g1 g2).2.1
      refine ⟨l, by rw [f2 o (f3 o _ hm), g2], ⟨c1, T, fz, q4, by rw [hlen]; omega, fun j v' hj => ?_⟩, Nat.lt_of_lt_of_le hlt hleft.size, .inr ⟨o, _, l, g1, g2, rfl, .inl ⟨rfl, rfl, ?_⟩⟩⟩
      · -- a cell of the object
        have hlo : (encs (old.take off)).length = off := by rw [encs_length, List.length_take]; omega
        have hout := hleft.out _ g5 (l.2 + j)
        simp only at hout
        have hj' : (encs (old.take off ++ c ++ old.drop (off + c.length)))[j]? = some v' := hj
        simp only [encs_append] at hj'
        by_cases h1 : j < off
        · rw [List.append_assoc, List.getElem?_append_left (by omega)] at hj'
          rw [hout (by omega)]
          refine q3 j v' ?_
          simp only [encs, List.map_take, List.getElem?_take, h1, if_true] at hj' ⊢
          exact hj'
        · by_cases h2 : j < off + c.length
          · rw [List.append_assoc, List.getElem?_append_right (by omega), hlo, List.getElem?_append_left (by rw [encs_length]; omega)] at hj'
            have := g6 _ _ hj'
            rwa [show l.2 + off + (j - off) = l.2 + j by omega] at this
          · rw [List.getElem?_append_right (by rw [List.length_append, hlo, encs_length]; omega), List.length_append, hlo, encs_length] at hj'
            rw [hout (by omega)]
            refine q3 j v' ?_
            simp only [encs, List.map_drop, List.getElem?_drop] at hj' ⊢
            rwa [show off + c.length + (j - (off + c.length)) = j by omega] at hj'
      · cases p with
        | true => simp only [parLen, hlen]
        | false => rfl
    · obtain ⟨l, e1, e2, e3, e4, e5⟩ := l2 o ob hm
      exact ⟨l, f1 _ e1, e2 φ', e4, .inl ⟨e3, e5⟩⟩
  · intro o o' ob ob' l l' h1 h2 h3 h4 e
    have hm := lookP_mem h1
    have hm' := lookP_mem h2
    rcases List.mem_append.1 hm with hm | hm <;> rcases List.mem_append.1 hm' with hm' | hm'
    · obtain ⟨p, old, l1', off, c, g1, g2, _⟩ := A o ob hm
      obtain ⟨p', old', l2', off', c', g1', g2', _⟩ := A o' ob' hm'
      rw [f2 o (f3 o _ hm), g2] at h3; cases h3
      rw [f2 o' (f3 o' _ hm'), g2'] at h4; cases h4
      exact h.inj o o' _ _ _ _ g1 g1' g2 g2' e
    · obtain ⟨p, old, l1', off, c, g1, g2, _⟩ := A o ob hm
      obtain ⟨lb, e1, e2, e3, e4, e5⟩ := l2 o' ob' hm'
      rw [f2 o (f3 o _ hm), g2] at h3; cases h3
      have := f1 _ e1
      simp only at this
      rw [h4] at this; cases this
      have := (h.own o _ _ g1 g2).2.1
      omega
    · obtain ⟨p, old, l1', off, c, g1, g2, _⟩ := A o' ob' hm'
      obtain ⟨lb, e1, e2, e3, e4, e5⟩ := l2 o ob hm
      rw [f2 o' (f3 o' _ hm'), g2] at h4; cases h4
      have := f1 _ e1
      simp only at this
      rw [h3] at this; cases this
      have := (h.own o' _ _ g1 g2).2.1
      omega
    · obtain ⟨lb, e1, _⟩ := l2 o ob hm
      obtain ⟨lb', e1', _⟩ := l2 o' ob' hm'
      have k1 := f1 _ e1
      have k2 := f1 _ e1'
      simp only at k1 k2
      rw [h3] at k1; cases k1
      rw [h4] at k2; cases k2
      exact l1 _ e1 _ e1' e
  · refine hval φ' f1 fun o ho => f2 o ?_
    obtain ⟨i, m, hi⟩ := ho
    cases hc : (news.map (·.1)).contains o with
    | false => rfl
    | true =>
      simp only [List.contains_iff_mem, List.mem_map] at hc
      obtain ⟨p, hp, e⟩ := hc
      exact (hdm p hp i o m hi e).elim
  · intro o ob n l hl hp hφ k hk
    have hm := lookP_mem hl
    rcases List.mem_append.1 hm with hm | hm
    · obtain ⟨p, old, l', off, c, g1, g2, g3, g4, g5, g6⟩ := A o ob hm
      rw [hφ] at g2; cases g2
      subst g3
      refine hleft.out _ g5 k ?_
      simp only
      cases p with
      | false => cases hp
      | true =>
        simp only [parLen, Option.some.injEq, List.length_append, List.length_take, List.length_drop] at hp
        omega
    · obtain ⟨_, _, _, _, _, e5⟩ := l2 o ob hm
      rw [e5] at hp; cases hp
end
end Go.DM
