/- A call, from its entry to its return. -/
import Derived.Test.YtimkdadlmolnaaaGreatDoorK402SimO
set_option linter.unusedSectionVars false
set_option linter.unusedSimpArgs false
set_option linter.unusedVariables false
namespace Go.DM
variable [Tok]
section
variable {P : Program} {X : Cx} {φ φ0 : Nat → Option Loc} {w0 w w' : World} {σ σ' : St} {a : Act} {n : Nat} {M : List Reg}
def placeOf (rs : List (Option Reg)) (o : Nat) : Option Loc := (rs[o]?).bind fun r => r.map fun m => (m.1, m.2.1)
theorem placeOf_eq {rs : List (Option Reg)} {o : Nat} {l : Loc} (h : placeOf rs o = some l) : ∃ m : Reg, rs[o]? = some (some m) ∧ l = (m.1, m.2.1) := by
  unfold placeOf at h
  rw [obs] at h
  obtain ⟨r, h1, h2⟩ := h
  rw [Option.map_eq_some_iff] at h2
  obtain ⟨m, rfl, h3⟩ := h2
  exact ⟨m, h1, h3.symm⟩
theorem enter_holds {ρ : Nat → Nat} {κ : Kn} {as : List Arg} {vs : List Value} {rs : List (Option Reg)} {ntmps : Nat} (h : ArgsRel ρ w as vs rs) (hk1 : κ.Ks w) (hk2 : κ.n0 ≤ w.heap.size) (hk3 : ∀ m ∈ some? rs, κ.n0 ≤ m.1) :
    Holds { inner ρ w (some? rs) with κ := κ } (some? rs) (placeOf rs) w ntmps (enter as) { tmps := vs.toArray ++ Array.replicate (ntmps - vs.toArray.size) Go.undef, defers := [] } w := by
  -- an argument that may be written
  have hreg : ∀ (o : Nat) (ob : Ob), (enter as).objs o = some ob → ∃ (x : Arg) (v : Value) (m : Reg) (cs : List S), as[o]? = some x ∧ vs[o]? = some v ∧ rs[o]? = some (some m) ∧ ob = .flat true cs ∧ m.2.2 = cs.length ∧
      w.rangeAt m.1 m.2.1 (encs cs) ∧ ∃ c T fz, Blk w m.1 c T fz ∧ m.2.1 + cs.length ≤ c.size := by
    intro o ob ho
    simp only [enter] at ho
    rw [obs] at ho
    obtain ⟨x, hx, ho⟩ := ho
    have hi : o < as.length := (List.getElem?_eq_some_iff.1 hx).1
    obtain ⟨v, hv⟩ : ∃ v, vs[o]? = some v := ⟨vs[o]'(by rw [← h.len]; exact hi), by simp⟩
    obtain ⟨r, hr⟩ : ∃ r, rs[o]? = some r := ⟨rs[o]'(by rw [← h.len']; exact hi), by simp⟩
    have he := h.each o x v r hx hv hr
    cases x with
    | d x => cases ho
    | mp cs =>
      cases ho
      cases r with
      | none => exact he.elim
      | some m =>
        obtain ⟨_, h2, h3, h4⟩ := he
        exact ⟨_, v, m, cs, hx, hv, hr, rfl, h2, h3, h4⟩
    | ms k es cs =>
      cases ho
      cases r with
      | none => exact he.elim
      | some m =>
        obtain ⟨_, _, _, _, _, _, h2, _, h3, h4⟩ := he
        exact ⟨_, v, m, cs, hx, hv, hr, rfl, h2, h3, h4⟩
  have hmem : ∀ {o : Nat} {m : Reg}, rs[o]? = some (some m) → m ∈ some? rs := fun {o m} ho => some?_mem.2 ⟨o, ho⟩
  refine ⟨placeOf rs, ⟨fun t => ?_, fun o ob ho => ?_, fun o o' ob ob' l l' h1 h2 h3 h4 e => ?_, fun o ob l h1 h2 => ?_, fun b hb => hb.1, Nat.le_refl _, hk1, hk2, hk3, fun b hb => ⟨Nat.lt_of_lt_of_le hb hk2, fun m hm e => absurd (show b < κ.n0 from hb) (Nat.not_lt.2 (e ▸ hk3 m hm))⟩⟩, Left.refl _ _, ?_, rfl, fun _ _ _ _ _ => rfl⟩
  · simp only [enter]
    cases hx : as[t]? with
    | none => trivial
    | some x =>
      have hi : t < as.length := (List.getElem?_eq_some_iff.1 hx).1
      have hiv : t < vs.length := by rw [← h.len]; exact hi
      obtain ⟨r, hr⟩ : ∃ r, rs[t]? = some r := ⟨rs[t]'(by rw [← h.len']; exact hi), by simp⟩
      have he := h.each t x vs[t] r hx (by simp) hr
      have e : (vs.toArray ++ Array.replicate (ntmps - vs.toArray.size) Go.undef).getD t Go.undef = vs[t] := by
        rw [Array.getD_eq_getD_getElem?, Array.getElem?_append_left (by simpa using hiv)]
        simp [hiv]
      rw [e]
      cases x with
      | d x =>
        cases r with
        | none => exact he
        | some m => exact he.elim
      | mp cs =>
        cases r with
        | none => exact he.elim
        | some m =>
          obtain ⟨h1, _⟩ := he
          exact ⟨(m.1, m.2.1), by simp [placeOf, hr], h1⟩
      | ms k es cs =>
        cases r with
        | none => exact he.elim
        | some m =>
          obtain ⟨ad, cap, h1, h2, h3, h4, _⟩ := he
          exact ⟨(m.1, m.2.1), ad, cap, by simp [placeOf, hr], h1, h2, by simpa using h3, by simpa using h4⟩
  · obtain ⟨x, v, m, cs, g1, g2, g3, rfl, g5, g6, c, T, fz, g7, g8⟩ := hreg o ob ho
    exact ⟨(m.1, m.2.1), by simp [placeOf, g3], c, T, fz, g7, g8, g6⟩
  · obtain ⟨m, k1, rfl⟩ := placeOf_eq h3
    obtain ⟨m', k2, rfl⟩ := placeOf_eq h4
    exact h.nodup o o' m m' k1 k2 e
  · obtain ⟨x, v, m, cs, g1, g2, g3, rfl, g5, _⟩ := hreg o ob h1
    obtain ⟨m', k1, rfl⟩ := placeOf_eq h2
    rw [g3] at k1; cases k1
    refine ⟨fun hI => hI.2 m (hmem g3) rfl, h.apart.lt m (hmem g3), ?_⟩
    simp only [parLen]
    rw [← g5]
    exact hmem g3
  · simp only [Array.size_append, Array.size_replicate]
    omega
theorem nodup_pos : ∀ {os : List (Option Nat)}, nodup (os.filterMap id) = true → ∀ (i j o : Nat), os[i]? = some (some o) → os[j]? = some (some o) → i = j
  | [], _, i, j, o, h, _ => by simp at h
  | x :: os, hn, i, j, o, hi, hj => by
    have key : ∀ (j : Nat), os[j]? = some (some o) → o ∈ os.filterMap id := fun j hj => List.mem_filterMap.2 ⟨some o, List.mem_of_getElem? hj, rfl⟩
    cases x with
    | none =>
      cases i with
      | zero => simp at hi
      | succ i =>
        cases j with
        | zero => simp at hj
        | succ j =>
          have : nodup (os.filterMap id) = true := by simpa using hn
          rw [nodup_pos this i j o (by simpa using hi) (by simpa using hj)]
    | some p =>
      have hn' : (!(os.filterMap id).contains p && nodup (os.filterMap id)) = true := by simpa [nodup] using hn
      rw [Bool.and_eq_true] at hn'
      have hp : p ∉ os.filterMap id := by
        have := hn'.1
        simpa only [Bool.not_eq_true', contains_false] using this
      cases i with
      | zero =>
        cases j with
        | zero => rfl
        | succ j =>
          simp at hi; subst hi
          exact (hp (key j (by simpa using hj))).elim
      | succ i =>
        cases j with
        | zero =>
          simp at hj; subst hj
          exact (hp (key i (by simpa using hi))).elim
        | succ j => rw [nodup_pos hn'.2 i j o (by simpa using hi) (by simpa using hj)]
theorem all?_get {α β : Type} {f : α → Option β} : ∀ {xs : List α} {ys : List β}, all? f xs = some ys → xs.length = ys.length ∧ ∀ (i : Nat) (x : α) (y : β), xs[i]? = some x → ys[i]? = some y → f x = some y
  | [], ys, h => by cases h; exact ⟨rfl, fun i x y h => by simp at h⟩
  | x :: xs, ys, h => by
    simp only [all?] at h
    rw [obs] at h
    obtain ⟨y, h1, h⟩ := h
    rw [Option.map_eq_some_iff] at h
    obtain ⟨ys', h2, rfl⟩ := h
    obtain ⟨h3, h4⟩ := all?_get h2
    refine ⟨by simp [h3], fun i x' y' hx hy => ?_⟩
    cases i with
    | zero => simp at hx hy; subst hx; subst hy; exact h1
    | succ i => exact h4 i x' y' (by simpa using hx) (by simpa using hy)
theorem retOf_sim {ρ : Nat → Nat} {as : List Arg} {rs : List (Option Reg)} {vs0 : List Value} (ha : ArgsRel ρ w0 as vs0 rs) (h : Holds' X (some? rs) (placeOf rs) w0 n φ σ a w) {v : V} {u : Value} {r : Ret} {o : Option Nat}
    (hr : retOf as σ v = some (r, o)) (hv : VRel X φ w v u) : RetRel w0 w rs r u (o.bind fun o => (φ o).map (·.1)) ∧ (∀ i, o = some i → ∃ l ob, φ i = some l ∧ σ.objs i = some ob) := by
  unfold retOf at hr
  split at hr
  · cases hr
    exact ⟨sv_rel hv, fun i hi => by cases hi⟩
  · cases hr
    have hv : DRel _ _ _ _ _ := hv
    cases hv
    exact ⟨rfl, fun i hi => by cases hi⟩
  · rename_i o' off m es
    obtain ⟨l, ad, cap, g1, rfl, g3, g4, g5⟩ := hv
    split at hr
    · rename_i cs hob
      split at hr
      · rename_i hc
        cases hr
        obtain ⟨l', k1, c, T, fz, k2, k3, k4⟩ := h.rel.objs _ _ hob
        rw [g1] at k1; cases k1
        obtain ⟨_, q2, q3⟩ := h.rel.own _ _ l hob g1
        refine ⟨?_, fun i hi => by cases hi; exact ⟨l, _, g1, hob⟩⟩
        simp only [Option.bind_some, g1, Option.map_some]
        refine ⟨l.2 + off, ad, cap, rfl, q3, q2, g3, g4, g5, c, T, fz, k2, ?_, fun j v hj => ?_⟩
        · simp only [List.length_take, List.length_drop]; omega
        · have hj' : ((encs cs).drop off |>.take (m * es))[j]? = some v := by
            have : encs ((cs.drop off).take (m * es)) = ((encs cs).drop off).take (m * es) := by simp [encs, List.map_take, List.map_drop]
            rw [← this]; exact hj
          rw [List.getElem?_take] at hj'
          split at hj'
          · rw [List.getElem?_drop] at hj'
            have := k4 _ _ hj'
            rwa [← Nat.add_assoc] at this
          · cases hj'
      · cases hr
    · rename_i cs hob
      split at hr
      · rename_i x y z hx
        cases hr
        refine ⟨?_, fun i hi => by cases hi⟩
        have hp := h.par _ _ _ hob rfl
        rw [g1] at hp
        obtain ⟨m', k1, rfl⟩ := placeOf_eq hp.symm
        exact ⟨m', ad, cap, k1, rfl, g3, g4, g5⟩
      · cases hr
    · cases hr
  · rename_i o'
    obtain ⟨l, g1, rfl⟩ := hv
    split at hr
    · rename_i cs hob
      cases hr
      obtain ⟨l', k1, k2⟩ := h.rel.objs _ _ hob
      rw [g1] at k1; cases k1
      obtain ⟨_, q2, q3⟩ := h.rel.own _ _ l hob g1
      refine ⟨?_, fun i hi => by cases hi; exact ⟨l, _, g1, hob⟩⟩
      simp only [Option.bind_some, g1, Option.map_some]
      exact ⟨l.2, rfl, q3, q2, k2⟩
    · cases hr
  · cases hr
theorem outs_sim {ρ : Nat → Nat} {rs : List (Option Reg)} {as0 : List Arg} {vs0 : List Value} (ha : ArgsRel ρ w0 as0 vs0 rs) (h : Holds' X (some? rs) (placeOf rs) w0 n φ σ a w) :
    ∀ {as : List Arg} {k : Nat} {outs : List (List S)}, (∀ j, as[j]? = as0[k + j]?) → outsOf σ k as = some outs → All2 (OutRel w) (some? (rs.drop k)) outs
  | [], k, outs, hj, ho => by
    cases ho
    have h1 : as0.length ≤ k := by
      have := hj 0
      simp only [List.getElem?_nil, Nat.add_zero] at this
      exact List.getElem?_eq_none_iff.1 this.symm
    have : rs.drop k = [] := List.drop_eq_nil_of_le (by rw [← ha.len']; exact h1)
    rw [this]
    exact .nil
  | x :: as, k, outs, hj, ho => by
    have hx : as0[k]? = some x := by have := hj 0; simpa using this.symm
    have hk : k < as0.length := (List.getElem?_eq_some_iff.1 hx).1
    have hkr : k < rs.length := by rw [← ha.len']; exact hk
    have hkv : k < vs0.length := by rw [← ha.len]; exact hk
    have hj' : ∀ j, as[j]? = as0[k + 1 + j]? := fun j => by have := hj (j + 1); simpa [Nat.add_assoc, Nat.add_comm 1 j] using this
    have he := ha.each k x vs0[k] rs[k] hx (by simp) (by simp)
    rw [List.drop_eq_getElem_cons hkr]
    simp only [outsOf] at ho
    split at ho
    · rename_i hm
      rw [obs] at ho
      obtain ⟨c, hc, ho⟩ := ho
      rw [Option.map_eq_some_iff] at ho
      obtain ⟨outs', ho, rfl⟩ := ho
      have ih := outs_sim ha h hj' ho
      cases hr : rs[k] with
      | none =>
        rw [hr] at he
        cases x with
        | d x => cases hm
        | mp cs => exact he.elim
        | ms k es cs => exact he.elim
      | some m =>
        rw [hr] at he
        have e : some? (some m :: rs.drop (k + 1)) = m :: some? (rs.drop (k + 1)) := rfl
        rw [e]
        refine .cons ?_ ih
        have hlen : ∀ cs cs' : List S, σ.objs k = some (.flat true cs') → (if cs'.length = cs.length then some cs' else none) = some c → m.2.2 = cs.length → OutRel w m c := by
          intro cs cs' hob hq hlen
          split at hq
          · rename_i hl
            cases hq
            obtain ⟨l, k1, _, _, _, _, _, k2⟩ := h.rel.objs _ _ hob
            have hp := h.par _ _ _ hob rfl
            rw [k1] at hp
            obtain ⟨m', k3, rfl⟩ := placeOf_eq hp.symm
            have : m' = m := by
              rw [List.getElem?_eq_getElem hkr, hr] at k3; cases k3; rfl
            subst this
            exact ⟨by rw [hlen, hl], k2⟩
          · cases hq
        unfold outOf at hc
        split at hc
        · rename_i hob
          obtain ⟨_, h2, _⟩ := he
          exact hlen _ _ hob hc h2
        · rename_i hob
          obtain ⟨_, _, _, _, _, _, h2, _⟩ := he
          exact hlen _ _ hob hc h2
        · cases hc
    · rename_i hm
      have ih := outs_sim ha h hj' ho
      cases hr : rs[k] with
      | none =>
        have e : some? (none :: rs.drop (k + 1)) = some? (rs.drop (k + 1)) := rfl
        rw [e]; exact ih
      | some m =>
        rw [hr] at he
        cases x with
        | d x => exact he.elim
        | mp cs => exact (hm rfl).elim
        | ms k es cs => exact (hm rfl).elim
theorem finish_sim {ρ : Nat → Nat} {rs : List (Option Reg)} {as : List Arg} {vs0 : List Value} {fn : Fn} {g : Func} {r : Res} (ha : ArgsRel ρ w0 as vs0 rs) (h : Holds' X (some? rs) (placeOf rs) w0 n φ σ a w)
    (hok : okRs P g.results.toList fn.res = true) (hf : finish fn as σ = some r) : ∃ v, (results g a.tmps).run P w = .ok v w ∧ ResRel w0 w rs r v := by
  unfold finish at hf
  rw [obs] at hf
  obtain ⟨vs, hvs, hf⟩ := hf
  rw [obs] at hf
  obtain ⟨os, hos, hf⟩ := hf
  split at hf
  · rename_i hnd
    rw [Option.map_eq_some_iff] at hf
    obtain ⟨outs, houts, rfl⟩ := hf
    obtain ⟨us, hrun, hus⟩ := results_run h.rel.base hok hvs
    refine ⟨_, hrun, h.left, ?_, by simpa using outs_sim ha h (k := 0) (fun j => by simp) houts⟩
    obtain ⟨hl, hget⟩ := all?_get hos
    have hone : ∀ (i : Nat) (q : Ret × Option Nat) (u : Value), os[i]? = some q → us[i]? = some u → RetRel w0 w rs q.1 u (q.2.bind fun o => (φ o).map (·.1)) ∧ (∀ j, q.2 = some j → ∃ l ob, φ j = some l ∧ σ.objs j = some ob) := by
      intro i q u hq hu
      have hi : i < vs.length := by rw [hl]; exact (List.getElem?_eq_some_iff.1 hq).1
      exact retOf_sim ha h (hget i vs[i] q (by simp) hq) (hus.2 i vs[i] u (by simp) hu)
    refine ⟨us, os.map fun q => q.2.bind fun o => (φ o).map (·.1), rfl, by simp [← hl, hus.1], by simp, fun i x u b hx hu hb => ?_, fun i j b hi hj => ?_⟩
    · simp only [List.getElem?_map, Option.map_eq_some_iff] at hx hb
      obtain ⟨q, hq, rfl⟩ := hx
      obtain ⟨q', hq', rfl⟩ := hb
      rw [hq] at hq'; cases hq'
      exact (hone i q u hq hu).1
    · simp only [List.getElem?_map, Option.map_eq_some_iff] at hi hj
      obtain ⟨q, hq, hqb⟩ := hi
      obtain ⟨q', hq', hqb'⟩ := hj
      have hget' : ∀ (i : Nat) (q : Ret × Option Nat), os[i]? = some q → (q.2.bind fun o => (φ o).map (·.1)) = some b → ∃ o l ob, q.2 = some o ∧ φ o = some l ∧ l.1 = b ∧ σ.objs o = some ob := by
        intro i q hq hb
        rw [obs] at hb
        obtain ⟨o, h1, h2⟩ := hb
        rw [Option.map_eq_some_iff] at h2
        obtain ⟨l, h2, h3⟩ := h2
        have hiu : i < us.length := by rw [← hus.1, hl]; exact (List.getElem?_eq_some_iff.1 hq).1
        obtain ⟨l', ob, h4, h5⟩ := (hone i q us[i] hq (by simp)).2 o h1
        exact ⟨o, l, ob, h1, h2, h3, h5⟩
      obtain ⟨o, l, ob, g1, g2, g3, g4⟩ := hget' i q hq hqb
      obtain ⟨o', l', ob', g1', g2', g3', g4'⟩ := hget' j q' hq' hqb'
      have e := h.rel.inj o o' ob ob' l l' g4 g4' g2 g2' (g3.trans g3'.symm)
      subst e
      have hnd' : nodup ((os.map (·.2)).filterMap id) = true := by
        rw [List.filterMap_map]; exact hnd
      exact nodup_pos hnd' i j o (by simp [hq, g1]) (by simp [hq', g1'])
  · cases hf
def Known (P : Program) (ρ : Nat → Nat) (κ : Kn) (f : Nat) (o : List Arg → Option Res) : Prop :=
  ∀ (as : List Arg) (r : Res), o as = some r → ∀ (w : World) (vs : List Value) (rs : List (Option Reg)), ArgsRel ρ w as vs rs → κ.K w → κ.n0 ≤ w.heap.size → (∀ m ∈ some? rs, κ.n0 ≤ m.1) →
    Go.Calls P f vs.toArray w fun e w' => ∃ v, e = .returned v ∧ ResRel w w' rs r v
def Table (P : Program) (ρ : Nat → Nat) (κ : Kn) (Γ : Nat → Option Fn) : Prop :=
  ∀ f fn, Γ f = some fn → (∃ g, P.funcs[ρ f]? = some g ∧ okFn P ρ g fn = true) ∧ ∀ o, fn.given = some o → Known P ρ κ (ρ f) o
theorem Table.bodies {ρ : Nat → Nat} {κ : Kn} {Γ : Nat → Option Fn} (h : Table P ρ κ Γ) : Bodies P ρ Γ := by
  intro f fn hf
  obtain ⟨⟨g, h1, h2⟩, _⟩ := h f fn hf
  simp only [okFn, Bool.and_eq_true] at h2
  obtain ⟨⟨h3, _⟩, h4⟩ := h2
  split at h3
  · rename_i c hc
    exact ⟨g, c, h1, hc, by simpa using h4⟩
  · cases h3
def okTab (P : Program) (ρ : Nat → Nat) : List (Nat × Fn) → Bool
  | [] => true
  | p :: r => (match P.funcs[ρ p.1]? with | some g => okFn P ρ g p.2 | none => false) && okTab P ρ r
theorem table_of {ρ : Nat → Nat} {κ : Kn} {tab gs : List (Nat × Fn)} (h : okTab P ρ (gs ++ tab) = true) (hn : (tab.all fun p => p.2.given.isNone) = true) (hg : ∀ p ∈ gs, ∀ o, p.2.given = some o → Known P ρ κ (ρ p.1) o) :
    Table P ρ κ (fun f => ((gs ++ tab).find? fun p => p.1 == f).map (·.2)) := by
  intro f fn hf
  simp only [Option.map_eq_some_iff] at hf
  obtain ⟨⟨k, fn'⟩, h1, rfl⟩ := hf
  have hm := List.mem_of_find?_eq_some h1
  have hk : k = f := by simpa using List.find?_some h1
  subst hk
  clear h1
  refine ⟨?_, fun o ho => ?_⟩
  · generalize gs ++ tab = tab at h hm
    induction tab with
    | nil => cases hm
    | cons p r ih =>
      simp only [okTab, Bool.and_eq_true] at h
      rcases List.mem_cons.1 hm with rfl | hm
      · have h2 := h.1
        split at h2
        · rename_i g hg; exact ⟨g, hg, h2⟩
        · cases h2
      · exact ih h.2 hm
  · rcases List.mem_append.1 hm with hm | hm
    · exact hg _ hm o ho
    · have := List.all_eq_true.1 hn _ hm
      rw [ho] at this
      cases this
theorem callN_sound {ρ : Nat → Nat} {κ : Kn} {Γ : Nat → Option Fn} (hm : P.follows .mixedOrders = true) (hT : Table P ρ κ Γ) : ∀ k, Sound P ρ κ (callN Γ k)
  | 0 => fun f as r h => by cases h
  | k + 1 => by
    intro f as r h w vs rs ha hk1 hk2 hk3
    have ih := callN_sound hm hT k
    simp only [callN] at h
    rw [obs] at h
    obtain ⟨fn, hfn, h⟩ := h
    cases hgv : fn.given with
    | some o =>
      rw [hgv] at h
      exact (hT f fn hfn).2 o hgv as r h w vs rs ha hk1.1 hk2 hk3
    | none =>
    rw [hgv] at h
    simp only at h
    split at h
    · rw [obs] at h
      obtain ⟨⟨e, σ'⟩, hx, h⟩ := h
      obtain ⟨⟨g, hg, hok⟩, _⟩ := hT f fn hfn
      simp only [okFn, hgv, Option.isSome_none, Bool.false_or, Bool.and_eq_true] at hok
      obtain ⟨⟨h3, h4⟩, h5⟩ := hok
      split at h3
      · rename_i c hc
        refine calls_of_wp hg hc ?_
        refine exec_wp (X := { inner ρ w (some? rs) with κ := κ }) hm hT.bodies ih ha.apart k h3 (enter_holds ha hk1 hk2 hk3) hx fun a' w' h' => ?_
        obtain ⟨φ, h'⟩ := h'
        have fin : finish fn as σ' = some r → a'.defers = [] ∧ ∃ v, (results g a'.tmps).run P w' = .ok v w' ∧ ∃ u, Ending.returned v = .returned u ∧ ResRel w w' rs r u := by
          intro hf
          obtain ⟨v, h6, h7⟩ := finish_sim ha h' h4 hf
          exact ⟨h'.defers, v, h6, v, rfl, h7⟩
        cases e with
        | normal => exact fin h
        | ret => exact fin h
        | exit id => cases h
      · cases h3
    · cases h
end
end Go.DM
