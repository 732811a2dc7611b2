/- An operation in a region: in the order of the text, and where the order is drawn. -/
import Derived.Test.YtimkdadlmolnaaaGreatDoorK402SimK
import Derived.Orders
import Derived.Tactics
set_option linter.unusedSectionVars false
set_option linter.unusedSimpArgs false
set_option linter.unusedVariables false
namespace Go.DM
variable [Tok]
section
variable {P : Program} {X : Cx} {φ φ' φ0 : Nat → Option Loc} {w0 w w' : World} {σ σ' : St} {a : Act} {B n : Nat} {M : List Reg}
theorem only_rel (h : Rel X B M φ σ a w) (ts : List Nat) : Rel X B M φ (only ts σ) a w :=
  ⟨fun t => by
    simp only [only]
    split
    · exact h.env t
    · trivial, h.objs, h.inj, h.own, h.lt, h.low, h.know⟩
theorem veil_rel (h : Rel X B M φ σ a w) (o : Oper) : Rel X B M φ (veil o σ) a w := (only_rel h _).kill _
theorem veil_objs (o : Oper) (σ : St) (i : Nat) (ob : Ob) (h : (veil o σ).objs i = some ob) : ∃ ob', σ.objs i = some ob' ∧ parLen ob' = parLen ob := by
  simp only [veil, DM.kill, only] at h
  split at h
  · cases h
  · rw [Option.map_eq_some_iff] at h
    obtain ⟨ob', h1, rfl⟩ := h
    exact ⟨ob', h1, (parLen_kill _ _).symm⟩
theorem lookP_map (hid : List Nat) : ∀ (ps : List (Nat × Ob)) (o : Nat), lookP (ps.map fun p => (p.1, killO hid p.2)) o = (lookP ps o).map (killO hid)
  | [], o => rfl
  | p :: ps, o => by
    simp only [List.map_cons, lookP, lookP_map hid ps o]
    cases lookP ps o with
    | some x => rfl
    | none => by_cases e : p.1 = o <;> simp [e]
theorem Shape.same (w : World) : Shape w w := fun _ c _ _ h => ⟨c, h, rfl⟩
theorem Does.hide {r : Dl} {u : Value} (d : Does X σ r φ φ' w w' u) (hid : List Nat) : Does X σ (hideD hid r) φ φ' w w' u := by
  have look : ∀ o ob, lookP (hideD hid r).puts o = some ob → ∃ ob', lookP r.puts o = some ob' ∧ ob = killO hid ob' := by
    intro o ob h
    simp only [hideD, lookP_map] at h
    rw [Option.map_eq_some_iff] at h
    obtain ⟨ob', h1, h2⟩ := h
    exact ⟨ob', h1, h2.symm⟩
  refine ⟨d.os, d.tape, d.output, d.size, d.shape, d.phi, ?_, ?_, ?_, ?_, ?_⟩
  · intro b hb h
    refine d.same b hb fun o ob l h1 h2 h3 => h o ob l h1 ?_ h3
    simp only [hideD, lookP_map, Option.isSome_map]
    exact h2
  · intro o ob h
    obtain ⟨ob', h1, rfl⟩ := look o ob h
    obtain ⟨l, g1, g2, g3, g4⟩ := d.puts o ob' h1
    refine ⟨l, g1, ObRel.kill (fun _ _ => rfl) (Shape.same w') (fun _ _ => rfl) rfl g2, g3, ?_⟩
    rw [parLen_kill]
    exact g4
  · intro o o' ob ob' l l' h1 h2
    obtain ⟨_, h1', _⟩ := look o ob h1
    obtain ⟨_, h2', _⟩ := look o' ob' h2
    exact d.inj o o' _ _ l l' h1' h2'
  · exact VRel.kill (fun _ _ => rfl) (Shape.same w') (fun _ _ => rfl) d.val
  · intro o ob m l h1 h2
    obtain ⟨ob', h1', rfl⟩ := look o ob h1
    rw [parLen_kill] at h2
    exact d.out o ob' m l h1' h2
structure Holds' (X : Cx) (M : List Reg) (φ0 : Nat → Option Loc) (w0 : World) (n : Nat) (φ : Nat → Option Loc) (σ : St) (a : Act) (w : World) : Prop where
  rel : Rel X w0.heap.size M φ σ a w
  left : Left M w0 w
  size : n ≤ a.tmps.size
  defers : a.defers = []
  par : ∀ (o : Nat) (ob : Ob) (k : Nat), σ.objs o = some ob → parLen ob = some k → φ o = φ0 o
def Holds (X : Cx) (M : List Reg) (φ0 : Nat → Option Loc) (w0 : World) (n : Nat) (σ : St) (a : Act) (w : World) : Prop := ∃ φ, Holds' X M φ0 w0 n φ σ a w
def isBad : Op → Bool | .bad => true | _ => false
def okOper (P : Program) (ρ : Nat → Nat) (n : Nat) (g : Go.Oper) (m : Oper) : Bool :=
  (isBad m.op || okO P ρ g.op m.op) && g.dst == m.dst && g.guard == m.guard && (match m.dst with | some d => decide (d < n) | none => true)
def okOpers (P : Program) (ρ : Nat → Nat) (n : Nat) : List Go.Oper → List Oper → Bool
  | [], [] => true
  | g :: gs, m :: ms => okOper P ρ n g m && okOpers P ρ n gs ms
  | _, _ => false
theorem okOpers_get {ρ : Nat → Nat} : ∀ {gs : List Go.Oper} {ms : List Oper}, okOpers P ρ n gs ms = true → gs.length = ms.length ∧ ∀ (j : Nat) (g : Go.Oper) (m : Oper), gs[j]? = some g → ms[j]? = some m → okOper P ρ n g m = true
  | [], [], _ => ⟨rfl, fun j g m h => by simp at h⟩
  | g :: gs, m :: ms, h => by
    simp only [okOpers, Bool.and_eq_true] at h
    obtain ⟨h1, h2⟩ := okOpers_get h.2
    refine ⟨by simp [h1], fun j g' m' hg hm => ?_⟩
    cases j with
    | zero => simp at hg hm; subst hg; subst hm; exact h.1
    | succ j => exact h2 j g' m' (by simpa using hg) (by simpa using hm)
  | [], _ :: _, h => by simp [okOpers] at h
  | _ :: _, [], h => by simp [okOpers] at h
theorem okOpers_dst {ρ : Nat → Nat} {gs : List Go.Oper} {ms : List Oper} (h : okOpers P ρ n gs ms = true) (j : Nat) : (gs.toArray[j]?).bind (·.dst) = dstsOf ms j := by
  obtain ⟨h1, h2⟩ := okOpers_get h
  simp only [dstsOf, List.getElem?_toArray]
  cases hg : gs[j]? with
  | none =>
    have : ms[j]? = none := by rw [List.getElem?_eq_none_iff] at hg ⊢; omega
    rw [this]; rfl
  | some g =>
    cases hm : ms[j]? with
    | none =>
      rw [List.getElem?_eq_none_iff] at hm
      have := (List.getElem?_eq_some_iff.1 hg).1
      omega
    | some m =>
      have := h2 j g m hg hm
      simp only [okOper, Bool.and_eq_true] at this
      simpa using this.1.1.2
theorem wanted_sim {gops : Array Go.Oper} {dsts : Nat → Option Nat} (hd : ∀ j, (gops[j]?).bind (·.dst) = dsts j) (he : ∀ t, VRel X φ w (σ.env t) (a.tmps.getD t Go.undef)) {g : Go.Oper} {b : Bool} (h : wanted dsts σ.env g.guard = some b) :
    Region.wanted g (yielded gops a.tmps) = b := by
  unfold wanted at h
  unfold Region.wanted
  split at h
  · rename_i hg; cases h; rw [hg]
  · rename_i j c hg
    rw [hg]
    rw [obs] at h
    obtain ⟨t, ht, h⟩ := h
    have het := he t
    split at h
    · rename_i x heq
      cases h
      rw [heq] at het
      have h1 := sv_rel het
      have h2 : a.tmps[t]? = some (.bool x) := by
        rw [Array.getD_eq_getD_getElem?] at h1
        cases hq : a.tmps[t]? with
        | none => rw [hq] at h1; cases h1
        | some y => rw [hq] at h1; simp only [Option.getD_some] at h1; rw [h1]; rfl
      simp only [yielded, hd, ht, Option.bind_some, h2]
      cases x <;> cases c <;> rfl
    · rename_i heq
      cases h
      rw [heq] at het
      obtain ⟨vs, h1, h2⟩ := het
      have := h2.nil_left
      subst this
      have h3 : ∀ b, a.tmps[t]? ≠ some (.bool b) := by
        intro b hb
        rw [Array.getD_eq_getD_getElem?, hb] at h1
        cases h1
      have h4 : yielded gops a.tmps j = none := by
        unfold yielded
        rw [hd, ht, Option.bind_some]
        split
        · rename_i b hb; exact (h3 b hb).elim
        · rfl
      simp only [h4]
      rfl
    · cases h
theorem Holds.apply {σ0 : St} {r : Dl} {dst : Option Nat} {u : Value} (h : Holds' X M φ0 w0 n φ σ a w) (hM : Apart M w0)
    (d : Does X σ0 r φ φ' w w' u) (h0 : ∀ o ob, σ0.objs o = some ob → ∃ ob', σ.objs o = some ob' ∧ parLen ob' = parLen ob) (hd : ∀ t, dst = some t → t < n) (hk : noPar σ r.kills = true) :
    Holds X M φ0 w0 n (applyD dst r σ) (a.put dst u) w' := by
  refine ⟨φ', h.rel.apply d h0 (fun t ht => Nat.lt_of_lt_of_le (hd t ht) h.size), h.left.step rfl hM h.rel d h0 hk, ?_, ?_, ?_⟩
  · cases dst <;> simp [Act.put, h.size]
  · cases dst <;> simp [Act.put, h.defers]
  · intro o ob k ho hp
    have hobj : (applyD dst r σ).objs o = match lookP r.puts o with | some x => some x | none => (DM.kill r.kills σ).objs o := by
      have e1 : ∀ (v : V) (σ : St), (set dst v σ).objs = σ.objs := fun v σ => by cases dst <;> rfl
      rw [applyD, e1, objs_insertAll]; rfl
    rw [hobj] at ho
    cases hl : lookP r.puts o with
    | some x =>
      rw [hl] at ho; cases ho
      obtain ⟨l, g1, _, _, g4⟩ := d.puts o _ hl
      rcases g4 with ⟨_, g5⟩ | ⟨o0, ob0, l0, g5, g6, _, g7⟩
      · rw [g5] at hp; cases hp
      · rcases g7 with ⟨rfl, rfl, g8⟩ | ⟨_, _, g8⟩
        · obtain ⟨ob', k1, k2⟩ := h0 o0 ob0 g5
          have := h.par o0 ob' k k1 (by rw [k2, ← g8]; exact hp)
          rw [g1, ← this, g6]
        · rw [g8] at hp; cases hp
    | none =>
      rw [hl] at ho
      simp only [DM.kill] at ho
      split at ho
      · cases ho
      · rename_i hc
        rw [Option.map_eq_some_iff] at ho
        obtain ⟨ob', k1, rfl⟩ := ho
        rw [parLen_kill] at hp
        rw [d.phi o (by simpa using hc)]
        exact h.par o ob' k k1 hp
section
variable {Γ : Nat → Option Fn} {call : Calls} {gops : Array Go.Oper} {dsts : Nat → Option Nat} {g : Go.Oper} {m : Oper} {Q : Exit → Act → World → Prop}
theorem deltaG_wp {σ0 : St} {r : Dl} {hid : List Nat} {b : Bool} (hB : Bodies P X.ρ Γ) (hS : Sound P X.ρ X.κ call) (hM : Apart M w0) (hd : ∀ j, (gops[j]?).bind (·.dst) = dsts j) (hok : okOper P X.ρ n g m = true)
    (h : Holds' X M φ0 w0 n φ σ a w) (hr0 : Rel X w0.heap.size M φ σ0 a w) (h0 : ∀ o ob, σ0.objs o = some ob → ∃ ob', σ.objs o = some ob' ∧ parLen ob' = parLen ob)
    (hr : deltaG Γ call dsts m σ0 = some r) (hk : noPar σ r.kills = true) {K : Act → World → Prop} (hK : ∀ a' w', Holds X M φ0 w0 n (applyD m.dst (if b then hideD hid r else r) σ) a' w' → K a' w') :
    if Region.wanted g (yielded gops a.tmps) then g.wp P a w K Q ∨ (g.asks P a w ∧ LetsOut Q) else K (a.put g.dst Go.undef) w := by
  simp only [okOper, Bool.and_eq_true] at hok
  obtain ⟨⟨⟨h1, h2⟩, h3⟩, h4⟩ := hok
  have h2 : g.dst = m.dst := by simpa using h2
  have h3 : g.guard = m.guard := by simpa using h3
  have hdst : ∀ t, m.dst = some t → t < n := by
    intro t ht
    rw [ht] at h4
    exact of_decide_eq_true h4
  have fin : ∀ {u : Value} {w' : World} {φ' : Nat → Option Loc}, Does X σ0 r φ φ' w w' u → K (a.put m.dst u) w' := by
    intro u w' φ' d
    refine hK _ _ (Holds.apply h hM (σ0 := σ0) (φ' := φ') ?_ h0 hdst ?_)
    · cases b
      · exact d
      · exact d.hide hid
    · cases b <;> exact hk
  unfold deltaG at hr
  rw [obs] at hr
  obtain ⟨c, hc, hr⟩ := hr
  rw [← h3] at hc
  rw [wanted_sim hd hr0.env hc]
  cases c with
  | true =>
    simp only [if_true] at hr ⊢
    rw [Bool.or_eq_true] at h1
    have h1 : okO P X.ρ g.op m.op = true := by
      rcases h1 with h1 | h1
      · unfold isBad at h1
        split at h1
        · rename_i heq
          rw [heq] at hr
          simp only [delta, quiet, makes] at hr
          cases hd : m.dst <;> rw [hd] at hr <;> simp at hr
        · cases h1
      · exact h1
    rw [← h2] at hr
    refine .inl (Leads.wp (B := w0.heap.size) (M := M) (delta_sim hB hS hr0 h1 hr) fun u w' φ' d => ?_)
    rw [h2]
    exact fin d
  | false =>
    simp only [Bool.false_eq_true, if_false] at hr ⊢
    cases hr
    rw [h2]
    exact fin (Does.quiet ⟨[], rfl, .nil⟩)
theorem step_wp (hB : Bodies P X.ρ Γ) (hS : Sound P X.ρ X.κ call) (hM : Apart M w0) (hd : ∀ j, (gops[j]?).bind (·.dst) = dsts j) (hok : okOper P X.ρ n g m = true) (h : Holds X M φ0 w0 n σ a w) (hs : step Γ call dsts m σ = some σ')
    {K : Act → World → Prop} (hK : ∀ a' w', Holds X M φ0 w0 n σ' a' w' → K a' w') :
    if Region.wanted g (yielded gops a.tmps) then g.wp P a w K Q ∨ (g.asks P a w ∧ LetsOut Q) else K (a.put g.dst Go.undef) w := by
  obtain ⟨φ, h1⟩ := h
  unfold step at hs
  rw [obs] at hs
  obtain ⟨r, hr, hs⟩ := hs
  split at hs
  · rename_i hk
    cases hs
    exact deltaG_wp (b := false) (hid := []) hB hS hM hd hok h1 h1.rel (fun o ob h => ⟨ob, h, rfl⟩) hr hk (by simpa using hK)
  · cases hs
theorem stepH_wp (hB : Bodies P X.ρ Γ) (hS : Sound P X.ρ X.κ call) (hM : Apart M w0) (hd : ∀ j, (gops[j]?).bind (·.dst) = dsts j) (hok : okOper P X.ρ n g m = true) (h : Holds X M φ0 w0 n σ a w) (hs : stepH Γ call dsts m σ = some σ')
    {K : Act → World → Prop} (hK : ∀ a' w', Holds X M φ0 w0 n σ' a' w' → K a' w') :
    if Region.wanted g (yielded gops a.tmps) then g.wp P a w K Q ∨ (g.asks P a w ∧ LetsOut Q) else K (a.put g.dst Go.undef) w := by
  obtain ⟨φ, h1⟩ := h
  unfold stepH at hs
  rw [obs] at hs
  obtain ⟨r, hr, hs⟩ := hs
  split at hs
  · rename_i hk
    simp only [Bool.and_eq_true] at hk
    cases hs
    exact deltaG_wp (b := true) (hid := m.hid) hB hS hM hd hok h1 (veil_rel h1.rel m) (veil_objs m σ) hr hk.2 (by simpa using hK)
  · cases hs
theorem run_wp (hB : Bodies P X.ρ Γ) (hS : Sound P X.ρ X.κ call) (hM : Apart M w0) (hd : ∀ j, (gops[j]?).bind (·.dst) = dsts j) (hQ : ∀ a' w', Holds X M φ0 w0 n σ' a' w' → Q .normal a' w') :
    ∀ {gs : List Go.Oper} {ms : List Oper} {σ : St} {a : Act} {w : World}, okOpers P X.ρ n gs ms = true → Holds X M φ0 w0 n σ a w → run (step Γ call dsts) ms σ = some σ' → wpList P gops Q gs a w
  | [], [], σ, a, w, _, h, hr => by cases hr; exact hQ _ _ h
  | g :: gs, m :: ms, σ, a, w, hok, h, hr => by
    simp only [okOpers, Bool.and_eq_true] at hok
    simp only [run] at hr
    rw [obs] at hr
    obtain ⟨σ1, hs, hr⟩ := hr
    exact step_wp hB hS hM hd hok.1 h hs fun a' w' h' => run_wp hB hS hM hd hQ hok.2 h' hr
  | [], _ :: _, _, _, _, hok, _, _ => by simp [okOpers] at hok
  | _ :: _, [], _, _, _, hok, _, _ => by simp [okOpers] at hok
theorem region_wp {id : Nat} {ms : List Oper} (hB : Bodies P X.ρ Γ) (hS : Sound P X.ρ X.κ call) (hM : Apart M w0) (hQ : ∀ a' w', Holds X M φ0 w0 n σ' a' w' → Q .normal a' w') (hok : okOpers P X.ρ n gops.toList ms = true) (h : Holds X M φ0 w0 n σ a w)
    (hr : region Γ call ms false σ = some σ') : (Go.Code.region id gops false).wp P Q a w :=
  wp_region_list (run_wp hB hS hM (fun j => by simpa using okOpers_dst hok j) hQ hok h (by simpa [region] using hr))
end
end
end Go.DM
