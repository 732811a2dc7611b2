/- Every operation of the small machine does what the program's own does. -/
import Derived.Test.YtimkdadlmolnaaaGreatDoorK402SimJ
set_option linter.unusedSectionVars false
set_option linter.unusedSimpArgs false
set_option linter.unusedVariables false
namespace Go.DM
variable [Tok]
section
variable {P : Program} {X : Cx} {φ : Nat → Option Loc} {w w' : World} {σ : St} {a : Act}
def Bodies (P : Program) (ρ : Nat → Nat) (Γ : Nat → Option Fn) : Prop := ∀ f fn, Γ f = some fn → ∃ g c, P.funcs[ρ f]? = some g ∧ g.body = some c ∧ g.name ≠ "runtime.NumGoroutine"
theorem callFunc_enter {Γ : Nat → Option Fn} (hB : Bodies P X.ρ Γ) {f : Nat} {fn : Fn} (hf : Γ f = some fn) (vs : Array Value) (w : World) : (callFunc (X.ρ f) vs).run P w = .ok (.enter (X.ρ f) vs) w := by
  obtain ⟨g, c, h1, h2, h3⟩ := hB f fn hf
  simp [callFunc, h1, h2, h3]
theorem callee_args {X : Cx} {p q : List A} {xs : List V} {ps qs us : List Value} (h1 : All2 (ARel X φ w) p ps) (h2 : All2 (VRel X φ w) xs us) (h3 : All2 (ARel X φ w) q qs) :
    All2 (VRel X φ w) (p.map V.a ++ xs ++ q.map V.a) (ps ++ us ++ qs) := by
  have e : ∀ {xs : List A} {vs : List Value}, All2 (ARel X φ w) xs vs → All2 (VRel X φ w) (xs.map V.a) vs := fun {xs vs} h =>
    ⟨by simp [h.1], fun i x v hx hv => by
      simp only [List.getElem?_map, Option.map_eq_some_iff] at hx
      obtain ⟨y, hy, rfl⟩ := hx
      exact h.2 i y v hy hv⟩
  exact (e h1).append h2 |>.append (e h3)
theorem callee_sim {Γ : Nat → Option Fn} (hB : Bodies P X.ρ Γ) (b : Base X φ σ a w) {g : Go.Oper} {m : Op} {f : Nat} {vs : List V} {fn : Fn} (hok : okO P X.ρ g.op m = true) (h : callee σ m = some (f, vs)) (hf : Γ f = some fn) :
    ∃ us : List Value, (execOp a.eval g).run P w = .ok (.enter (X.ρ f) us.toArray) w ∧ All2 (VRel X φ w) vs us := by
  obtain ⟨gd, gop, gt, gp, ga, gg⟩ := g
  simp only at hok
  unfold okO at hok
  split at hok <;> first | (simp [callee] at h; done) | (cases hok; done) | skip
  · rename_i f0 gargs _ f' as
    simp only [Bool.and_eq_true] at hok
    obtain ⟨h1, h2⟩ := hok
    have e := eq_of_beq h1
    subst e
    simp only [callee, Option.some.injEq, Prod.mk.injEq] at h
    obtain ⟨rfl, rfl⟩ := h
    refine ⟨gargs.toList.map a.eval, ?_, okXs_sim b h2⟩
    have e2 : Array.map a.eval gargs = (gargs.toList.map a.eval).toArray := by
      apply Array.ext'; simp
    simp only [execOp, resolve, Act.eval, Deferred.ofValue, Sem.run_bind, Sem.run_pure, Result.andThen_ok, invoke]
    rw [show (#[] ++ Array.map a.eval gargs ++ #[] : Array Value) = (gargs.toList.map a.eval).toArray from by rw [← e2]; simp]
    exact callFunc_enter hB hf _ w
  · rename_i t gargs _ x as
    simp only [Bool.and_eq_true] at hok
    obtain ⟨h1, h2⟩ := hok
    have hx := okX_sim b h1
    have hargs := okXs_sim b h2
    have e2 : Array.map a.eval gargs = (gargs.toList.map a.eval).toArray := by
      apply Array.ext'; simp
    have run : ∀ (ats : Array TypeId) (g : Nat) (ps qs : List Value), X.ρ g = X.ρ f → a.eval (.tmp t) = .func (.func (X.ρ g)) ps.toArray qs.toArray →
        (execOp a.eval { dst := gd, op := Go.Op.call { callee := .value (.tmp t), args := gargs, argTypes := ats }, type := gt, pos := gp, after := ga, guard := gg }).run P w = .ok (.enter (X.ρ f) (ps ++ gargs.toList.map a.eval ++ qs).toArray) w := by
      intro ats g ps qs eg he
      simp only [execOp, resolve, he, Deferred.ofValue, Sem.run_bind, Sem.run_pure, Result.andThen_ok, invoke]
      rw [eg, show (ps.toArray ++ Array.map a.eval gargs ++ qs.toArray : Array Value) = (ps ++ gargs.toList.map a.eval ++ qs).toArray from by rw [e2]; apply Array.ext'; simp]
      exact callFunc_enter hB hf _ w
    simp only [callee] at h
    split at h
    · rename_i f' p q heq
      simp only [Option.some.injEq, Prod.mk.injEq] at h
      obtain ⟨rfl, rfl⟩ := h
      rw [heq] at hx
      obtain ⟨ps, qs, e3, e4, e5⟩ := hx
      exact ⟨_, run _ _ ps qs rfl e3, callee_args e4 hargs e5⟩
    · rename_i f' p q heq
      simp only [Option.some.injEq, Prod.mk.injEq] at h
      obtain ⟨rfl, rfl⟩ := h
      rw [heq] at hx
      have hx : DRel _ _ _ _ _ := hx
      generalize hev : a.eval (.tmp t) = fv at hx
      cases hx with
      | clo _ _ _ ps qs hp hq g1 g2 =>
        refine ⟨_, run _ _ ps qs rfl hev, ?_⟩
        have k1 : All2 (ARel X φ w) (p.map A.d) ps := ⟨by simp [hp], fun i x v hx hv => by
          simp only [List.getElem?_map, Option.map_eq_some_iff] at hx
          obtain ⟨y, hy, rfl⟩ := hx
          exact g1 i y v hy hv⟩
        have k2 : All2 (ARel X φ w) (q.map A.d) qs := ⟨by simp [hq], fun i x v hx hv => by
          simp only [List.getElem?_map, Option.map_eq_some_iff] at hx
          obtain ⟨y, hy, rfl⟩ := hx
          exact g2 i y v hy hv⟩
        have := callee_args k1 hargs k2
        simpa [List.map_map, Function.comp_def] using this
    · cases h
def Leads (P : Program) (X : Cx) (σ : St) (r : Dl) (φ : Nat → Option Loc) (a : Act) (w : World) (o : Go.Oper) : Prop :=
  (∃ u w' n, (execOp a.eval o).run P w = .ok n w' ∧ (n = .value u ∨ (n = .skip ∧ u = Go.undef)) ∧ ∃ φ', Does X σ r φ φ' w w' u) ∨
  (∃ f us, (execOp a.eval o).run P w = .ok (.enter f us) w ∧ Go.Calls P f us w fun e w' => ∃ u, e = .returned u ∧ ∃ φ', Does X σ r φ φ' w w' u)
theorem Leads.wp {B : Nat} {M : List Reg} {r : Dl} {o : Go.Oper} {next : Act → World → Prop} {Q : Exit → Act → World → Prop} (h : Leads P X σ r φ a w o)
    (hn : ∀ u w' φ', Does X σ r φ φ' w w' u → next (a.put o.dst u) w') : o.wp P a w next Q := by
  unfold Oper.wp
  rcases h with ⟨u, w', n, h1, h2, φ', h3⟩ | ⟨f, us, h1, h2⟩
  · rw [h1]
    rcases h2 with rfl | ⟨rfl, rfl⟩
    · exact hn u w' φ' h3
    · exact hn _ w' φ' h3
  · rw [h1]
    refine Calls.mono h2 fun e w' he => ?_
    obtain ⟨u, rfl, φ', h3⟩ := he
    exact hn u w' φ' h3
theorem delta_sim {B : Nat} {M : List Reg} {Γ : Nat → Option Fn} {call : Calls} (hB : Bodies P X.ρ Γ) (hS : Sound P X.ρ X.κ call) (h : Rel X B M φ σ a w) {g : Go.Oper} {m : Op} {r : Dl} (hok : okO P X.ρ g.op m = true)
    (hd : delta Γ call g.dst σ m = some r) : Leads P X σ r φ a w g := by
  have b := h.base
  -- the operations that only compute, or make memory
  have simple : (match quiet σ m with
      | some v => some { v := v }
      | none => g.dst.bind fun d => (makes σ d m).map fun p => ({ v := p.1, kills := p.2.map (·.1), puts := p.2 } : Dl)) = some r → Leads P X σ r φ a w g := by
    intro hd
    split at hd
    · rename_i v hq
      cases hd
      obtain ⟨u, h1, h2⟩ := quiet_sim b hok hq
      exact .inl ⟨u, w, _, h1, .inl rfl, φ, Does.quiet h2⟩
    · rw [obs] at hd
      obtain ⟨d, _, hd⟩ := hd
      rw [Option.map_eq_some_iff] at hd
      obtain ⟨⟨v, ps⟩, h1, rfl⟩ := hd
      obtain ⟨u, w', h2, φ', h3⟩ := makes_sim b h.lt hok h1
      exact .inl ⟨u, w', _, h2, .inl rfl, φ', h3⟩
  -- a call
  have calling : (callee σ m).bind (fun p => (callF Γ call σ p.1 p.2).bind fun r =>
      match g.dst with
      | some d => (retsV p.2 d r.1.rets).bind fun q => if q.2.all (fun x => !(r.2.map (·.1)).contains x.1) then some ({ v := q.1, kills := q.2.map (·.1), puts := r.2 ++ q.2 } : Dl) else none
      | none => some { v := .undef, puts := r.2 }) = some r → Leads P X σ r φ a w g := by
    intro hd
    rw [obs] at hd
    obtain ⟨⟨f, vs⟩, hc, hd⟩ := hd
    rw [obs] at hd
    obtain ⟨⟨rr, ps⟩, hcf, hd⟩ := hd
    simp only [callF] at hcf
    rw [obs] at hcf
    obtain ⟨fn, hfn, hcf⟩ := hcf
    split at hcf
    · rename_i hnd
      rw [obs] at hcf
      obtain ⟨as, has, hcf⟩ := hcf
      rw [obs] at hcf
      obtain ⟨rr', hcall, hcf⟩ := hcf
      rw [Option.map_eq_some_iff] at hcf
      obtain ⟨ps', hbk, hcf⟩ := hcf
      cases hcf
      obtain ⟨us, hrun, hvs⟩ := callee_sim hB b hok hc hfn
      have hargs := argsRel h hnd has hvs
      have hreg : ∀ m ∈ some? (snds (regs φ σ fn.muts vs)), X.κ.n0 ≤ m.1 := by
        intro m hm
        obtain ⟨i, hi⟩ := some?_mem.1 hm
        obtain ⟨o, ho⟩ := snds_get hi
        obtain ⟨_, _, _, k4⟩ := args_sim (Mt := []) h (ids := mutIds fn.muts vs) (fun m hm => by cases hm) has hvs
        obtain ⟨ob, l, g1, g2, g3, _⟩ := k4 i _ ho
        have h4 := (h.own _ ob l g1 g2).2.2
        rw [← g3]
        cases hp : parLen ob with
        | none => rw [hp] at h4; exact Nat.le_trans h.know.2.1 h4
        | some n => rw [hp] at h4; exact h.know.2.2.1 _ h4
      refine .inr ⟨_, _, hrun, Calls.mono (hS f as rr hcall w us _ hargs h.know.1 (Nat.le_trans h.know.2.1 h.low) hreg) fun e w' he => ?_⟩
      obtain ⟨v, rfl, hres⟩ := he
      refine ⟨v, rfl, ?_⟩
      obtain ⟨hleft, ⟨rvs, bs, hv, n1, n2, hret, hbs⟩, houts⟩ := hres
      obtain ⟨A, Bk, _⟩ := backs_sim has hvs houts hbk
      have hdm : ∀ (news : List (Nat × Ob)), (∀ p ∈ news, ∀ q ∈ ps, p.1 ≠ q.1) → ∀ p ∈ news, ∀ (i o : Nat) (m : Reg), (regs φ σ fn.muts vs)[i]? = some (some (o, m)) → p.1 ≠ o := by
        intro news hd p hp i o m hi e
        have hm : m ∈ some? (snds (regs φ σ fn.muts vs)) := some?_mem.2 ⟨i, by simp [snds, hi]⟩
        obtain ⟨o', ob', ho', l', e1, e2⟩ := Bk m hm
        obtain ⟨_, _, _, k4⟩ := args_sim (Mt := []) h (ids := mutIds fn.muts vs) (fun m hm => by cases hm) has hvs
        obtain ⟨ob, l, g1, g2, g3, _⟩ := k4 i _ hi
        obtain ⟨p', old', l2, off', c', r1, r2, _⟩ := A o' ob' ho'
        rw [e1] at r2; cases r2
        have := h.inj o o' _ _ l _ g1 r1 g2 e1 (g3.trans e2.symm)
        subst this
        exact hd p hp _ ho' e
      have hbs' : ∀ (ls : List (Nat × Loc)) (k : Nat → Nat), (∀ p ∈ ls, ∃ j b', bs[j]? = some (some b') ∧ p.2.1 = b' ∧ p.1 = k j) → ∀ p ∈ ls, ∀ q ∈ ls, p.2.1 = q.2.1 → p.1 = q.1 := by
        intro ls k hl p hp q hq e
        obtain ⟨j, b', e1, e2, e3⟩ := hl p hp
        obtain ⟨j', b'', e1', e2', e3'⟩ := hl q hq
        have : b' = b'' := by rw [← e2, ← e2', e]
        subst this
        have := hbs j j' b' e1 e1'
        rw [e3, e3', this]
      cases hdst : g.dst with
      | none =>
        rw [hdst] at hd
        cases hd
        obtain ⟨φ', hdo⟩ := call_does (V0 := .undef) (v := v) (news := []) (ls := []) (bs := bs) h has hvs hleft houts hbk (fun p hp => by cases hp) (fun p hp => by cases hp) (fun p hp => by cases hp) (fun i ob hp => by cases hp) (fun p hp => by cases hp) (fun _ _ _ => trivial) hnd (fun p hp => by cases hp)
        exact ⟨φ', by simpa using hdo⟩
      | some d =>
        rw [hdst] at hd
        rw [obs] at hd
        obtain ⟨⟨V0, news⟩, hrv, hd⟩ := hd
        simp only at hd
        split at hd
        · rename_i hdis
          cases hd
          have hdis' : ∀ p ∈ news, ∀ q ∈ ps, p.1 ≠ q.1 := by
            intro p hp q hq e
            have := List.all_eq_true.1 hdis p hp
            have h2 : (ps.map (·.1)).contains p.1 = true := by
              simp only [List.contains_iff_mem, List.mem_map]
              exact ⟨q, hq, e.symm⟩
            rw [h2] at this; cases this
          unfold retsV at hrv
          split at hrv
          · rename_i x heq
            rw [Option.map_eq_some_iff] at hrv
            obtain ⟨⟨y, n0⟩, hrv, hq⟩ := hrv
            cases hq
            rw [heq] at n1 n2 hret
            obtain ⟨u, rfl⟩ : ∃ u, rvs = [u] := by
              cases rvs with
              | nil => simp at n1
              | cons u us =>
                cases us with
                | nil => exact ⟨u, rfl⟩
                | cons _ _ => simp at n1
            obtain ⟨b0, rfl⟩ : ∃ b0, bs = [b0] := by
              cases bs with
              | nil => simp at n2
              | cons u us =>
                cases us with
                | nil => exact ⟨u, rfl⟩
                | cons _ _ => simp at n2
            obtain ⟨ls, a0, a1, a2, a3, a4⟩ := retV_sim (X := X) hrv (hret 0 x u b0 rfl rfl rfl)
            have hv' : v = u := hv
            subst hv'
            exact call_does (V0 := .a y) (bs := [b0]) h has hvs hleft houts hbk hdis' a0 (fun p hp q hq _ => by
              obtain ⟨_, _, _, e1⟩ := a1 p hp
              obtain ⟨_, _, _, e2⟩ := a1 q hq
              rw [e1, e2]) a2 a3 a4 hnd (hdm _ hdis')
          · rename_i hne
            rw [Option.map_eq_some_iff] at hrv
            obtain ⟨⟨ys, n0⟩, hrv, hq⟩ := hrv
            cases hq
            obtain ⟨ls, a0, a1, a2, a3, a4⟩ := retVs_sim (X := X) hrv n1 n2 hret
            have hv' : v = .tuple rvs.toArray := by
              rw [hv]
              unfold packed
              split
              · rename_i u
                exfalso
                obtain ⟨x, hx⟩ : ∃ x, rr.rets = [x] := by
                  cases hq : rr.rets with
                  | nil => rw [hq] at n1; simp at n1
                  | cons x xs =>
                    cases xs with
                    | nil => exact ⟨x, rfl⟩
                    | cons _ _ => rw [hq] at n1; simp at n1
                exact hne x hx
              · rfl
            exact call_does (V0 := .tup ys) (bs := bs) h has hvs hleft houts hbk hdis' a0 (hbs' ls _ a1) a2 a3 (fun φ2 h1 h2 => ⟨rvs, hv', a4 φ2 h1 h2⟩) hnd (hdm _ hdis')
        · cases hd
    · cases hcf
  cases m with
  | store n x v =>
    obtain ⟨gd, gop, gt, gp, ga, gg⟩ := g
    simp only at hok hd
    unfold okO at hok
    split at hok <;> first | (cases hok; done) | skip
    all_goals (rename_i heq; cases heq)
    rename_i T gx gy
    simp only [Bool.and_eq_true] at hok
    obtain ⟨⟨h1, h2⟩, h3⟩ := hok
    have hx := okX_sim b h1
    simp only [delta] at hd
    split at hd
    · rename_i o off heq
      rw [heq] at hx
      obtain ⟨l, e1, e2⟩ := hx
      rw [obs] at hd
      obtain ⟨ob, hob, hd⟩ := hd
      rw [Option.map_eq_some_iff] at hd
      obtain ⟨ob', hst, rfl⟩ := hd
      obtain ⟨w', h4, h5⟩ := store_sim h h3 hob e1 (okX_sim b h2) hst
      refine .inl ⟨Go.undef, w', .skip, ?_, .inr ⟨rfl, rfl⟩, φ, h5⟩
      simp [execOp, Instr.storeAt, e2, Instr.sureAddr, h4]
    · cases hd
  | ren x =>
    obtain ⟨gd, gop, gt, gp, ga, gg⟩ := g
    simp only at hok hd
    unfold okO at hok
    split at hok <;> first | (cases hok; done) | skip
    all_goals (rename_i heq; cases heq)
    have hx := okX_sim b hok
    simp only [delta] at hd
    split at hd
    · rename_i o off n es d heq
      rw [heq] at hx
      split at hd
      · cases hd
        exact .inl ⟨_, w, _, rfl, .inl rfl, φ, Does.quiet hx⟩
      · rename_i hne
        split at hd
        · rename_i cs hob
          cases hd
          obtain ⟨φ', h2⟩ := ren_sim h hx hne hob
          exact .inl ⟨_, w, _, rfl, .inl rfl, φ', h2⟩
        · cases hd
    · cases hd
      exact .inl ⟨_, w, _, rfl, .inl rfl, φ, Does.quiet hx⟩
  | app es x y =>
    obtain ⟨gd, gop, gt, gp, ga, gg⟩ := g
    simp only at hok hd
    unfold okO at hok
    split at hok <;> first | (cases hok; done) | skip
    all_goals (rename_i heq; cases heq)
    rename_i gargs ats
    simp only [Bool.and_eq_true] at hok
    obtain ⟨h1, h2⟩ := hok
    obtain ⟨gx, gy, rfl, h3, h4⟩ := args2 h1
    obtain ⟨ats⟩ := ats
    simp only at h2
    split at h2
    · rename_i T T'
      simp only [Bool.and_eq_true] at h2
      obtain ⟨h2, h5⟩ := h2
      split at h2
      · rename_i e he
        simp only [Bool.and_eq_true] at h2
        obtain ⟨⟨⟨h6, h7⟩, h8⟩, h9⟩ := h2
        split at h9
        · rename_i i hi
          split at h9
          · rename_i z hz
            simp only [delta] at hd
            obtain ⟨z', w', k1, k2⟩ := append_sim (P := P) (T' := T') (ty := gt) h he hi hz h6 (eq_of_beq h9) (by simpa using h7) h8 (by simpa using h5) (okX_sim b h3) (okX_sim b h4) hd
            refine .inl ⟨z', w', _, ?_, .inl rfl, k2⟩
            simp [execOp, resolve, invoke, builtin, k1]
          · cases h9
        · cases h9
      · cases h2
    · cases h2
  | clr es zs x =>
    obtain ⟨gd, gop, gt, gp, ga, gg⟩ := g
    simp only at hok hd
    unfold okO at hok
    split at hok <;> first | (cases hok; done) | skip
    all_goals (rename_i heq; cases heq)
    rename_i gargs ats
    simp only [Bool.and_eq_true] at hok
    obtain ⟨h1, h2⟩ := hok
    obtain ⟨gx, rfl, h3⟩ := args1 h1
    obtain ⟨ats⟩ := ats
    simp only at h2
    split at h2
    · rename_i T
      split at h2
      · rename_i e he
        simp only [Bool.and_eq_true] at h2
        obtain ⟨h4, h5⟩ := h2
        have hx := okX_sim b h3
        simp only [delta] at hd
        split at hd
        · rename_i heq
          cases hd
          rw [heq] at hx
          refine .inl ⟨.tuple #[], w, _, ?_, .inl rfl, φ, Does.quiet ⟨[], rfl, .nil⟩⟩
          have := sv_rel hx
          simp [execOp, resolve, invoke, builtin, this, enc_nils, Builtin.clear_, run_underlying (sliceOf_eq he)]
        · rename_i o off n es' heq
          rw [heq] at hx
          split at hd
          · rename_i p cs hob
            split at hd
            · rename_i hc
              obtain ⟨rfl, hc2, hc3⟩ := hc
              cases hd
              obtain ⟨w', k1, k2⟩ := clr_sim (P := P) (ty := gt) h he h4 hc2 hx hob hc3
              refine .inl ⟨.tuple #[], w', _, ?_, .inl rfl, φ, k2⟩
              simp [execOp, resolve, invoke, builtin, k1]
            · cases hd
          · cases hd
        · cases hd
      · cases h2
    · cases h2
  | cpy es x y =>
    obtain ⟨gd, gop, gt, gp, ga, gg⟩ := g
    simp only at hok hd
    unfold okO at hok
    split at hok <;> first | (cases hok; done) | skip
    all_goals (rename_i heq; cases heq)
    rename_i gargs ats
    simp only [Bool.and_eq_true] at hok
    obtain ⟨h1, h2⟩ := hok
    obtain ⟨gx, gy, rfl, h3, h4⟩ := args2 h1
    obtain ⟨ats⟩ := ats
    simp only at h2
    split at h2
    · rename_i T T'
      simp only [Bool.and_eq_true] at h2
      obtain ⟨h2, h5⟩ := h2
      split at h2
      · rename_i e he
        simp only [Bool.and_eq_true] at h2
        obtain ⟨h6, h7⟩ := h2
        have hx := okX_sim b h3
        have hy := okX_sim b h4
        simp only [delta] at hd
        split at hd
        · cases hd
        · rename_i hns
          split at hd
          · cases hd
          · rename_i m ys hel
            split at hd
            · rename_i o off n es' hxe
              rw [hxe] at hx
              split at hd
              · rename_i p cs hob
                split at hd
                · rename_i hc
                  obtain ⟨rfl, hle⟩ := hc
                  cases hd
                  obtain ⟨w', k1, k2⟩ := cpy_sim (P := P) (T' := T') (ty := gt) h he h6 (by simpa using h7) (fun s hs => hns s hs) hx hy hel hob hle
                  refine .inl ⟨_, w', _, ?_, .inl rfl, φ, k2⟩
                  simp [execOp, resolve, invoke, builtin, k1]
                · cases hd
              · cases hd
            · cases hd
      · cases h2
    · cases h2
  | call f xs => exact calling hd
  | callv x xs => exact calling hd
  | mput vn ks m k v =>
    obtain ⟨gd, gop, gt, gp, ga, gg⟩ := g
    simp only at hok hd
    have put : ∀ {T : TypeId} {gm gk gv : Operand}, okX X.ρ gm m = true → okX X.ρ gk k = true → okX X.ρ gv v = true → okMap P T ks vn = true → ∃ w', (Instr.mapUpdate T (a.eval gm) (a.eval gk) (a.eval gv)).run P w = .ok () w' ∧ Does X σ r φ φ w w' Go.undef := by
      intro T gm gk gv h1 h2 h3 h4
      have hx := okX_sim b h1
      simp only [delta] at hd
      split at hd
      · rename_i o heq
        rw [heq] at hx
        split at hd
        · rename_i ks' es hob
          rw [obs] at hd
          obtain ⟨key, h5, hd⟩ := hd
          rw [obs] at hd
          obtain ⟨val, h6, hd⟩ := hd
          split at hd
          · rename_i hc
            obtain ⟨rfl, hc2, hc3⟩ := hc
            cases hd
            exact mput_sim h h4 hx (okX_sim b h2) (okX_sim b h3) hob h5 h6 hc2 hc3
          · cases hd
        · cases hd
      · cases hd
    unfold okO at hok
    split at hok <;> first | (cases hok; done) | skip
    all_goals (rename_i heq; cases heq)
    all_goals
      simp only [Bool.and_eq_true] at hok
      obtain ⟨⟨⟨h1, h2⟩, h3⟩, h4⟩ := hok
      obtain ⟨w', k1, k2⟩ := put h1 h2 h3 h4
      refine .inl ⟨Go.undef, w', .skip, ?_, .inr ⟨rfl, rfl⟩, φ, k2⟩
      simp [execOp, k1]
  | ment vn zv ks m k =>
    obtain ⟨gd, gop, gt, gp, ga, gg⟩ := g
    simp only at hok hd
    unfold okO at hok
    split at hok <;> first | (cases hok; done) | skip
    all_goals (rename_i heq; cases heq)
    simp only [Bool.and_eq_true] at hok
    obtain ⟨⟨⟨h1, h2⟩, h3⟩, h4⟩ := hok
    have hx := okX_sim b h1
    simp only [delta] at hd
    split at hd
    · rename_i o heq
      rw [heq] at hx
      split at hd
      · rename_i ks' es hob
        rw [obs] at hd
        obtain ⟨key, h5, hd⟩ := hd
        split at hd
        · rename_i hc
          obtain ⟨rfl, hc2, hc3⟩ := hc
          cases hd
          obtain ⟨v', w', k1, k2⟩ := ment_sim h h3 h4 hx (okX_sim b h2) hob h5 hc2
          refine .inl ⟨v', w', .value v', ?_, .inl rfl, φ, k2⟩
          simp [execOp, k1]
        · cases hd
      · cases hd
    · cases hd
  | mest vn m s v =>
    obtain ⟨gd, gop, gt, gp, ga, gg⟩ := g
    simp only at hok hd
    unfold okO at hok
    split at hok <;> first | (cases hok; done) | skip
    all_goals (rename_i heq; cases heq)
    simp only [Bool.and_eq_true] at hok
    obtain ⟨⟨h1, h2⟩, h3⟩ := hok
    have hx := okX_sim b h1
    have hs := okX_sim b h2
    simp only [delta] at hd
    split at hd
    · rename_i o heq
      rw [heq] at hx
      split at hd
      · rename_i ks es hob
        split at hd
        · rename_i j hsj
          rw [hsj] at hs
          rw [obs] at hd
          obtain ⟨val, h6, hd⟩ := hd
          split at hd
          · rename_i hc
            obtain ⟨hc1, hc2, hc3⟩ := hc
            cases hd
            obtain ⟨w', k1, k2⟩ := mest_sim (P := P) h hx hs (okX_sim b h3) hob h6 hc3 ⟨hc1, hc2⟩
            refine .inl ⟨Go.undef, w', .skip, ?_, .inr ⟨rfl, rfl⟩, φ, k2⟩
            simp [execOp, k1]
          · cases hd
        · cases hd
      · cases hd
    · cases hd
  | mv x => exact simple hd
  | pick c x y => exact simple hd
  | alloc zs => exact simple hd
  | box n x => exact simple hd
  | build zs ps => exact simple hd
  | bsl es n zs ps => exact simple hd
  | bslr n ps => exact simple hd
  | load n ag x => exact simple hd
  | nilc x => exact simple hd
  | bin op x y => exact simple hd
  | eqa ng ag ks x y => exact simple hd
  | un op x => exact simple hd
  | conv k x => exact simple hd
  | mkf f p q => exact simple hd
  | slc k x lo hi => exact simple hd
  | fld off n ag x => exact simple hd
  | fadr off x => exact simple hd
  | idxs es x i => exact simple hd
  | idxa n es x i => exact simple hd
  | idxstr x i => exact simple hd
  | idxagg n es ag x i => exact simple hd
  | ext x i => exact simple hd
  | len k x => exact simple hd
  | mm mx x y => exact simple hd
  | mks es zs l c => exact simple hd
  | mkm ks => exact simple hd
  | mget vn zv ks ok m k => exact simple hd
  | mki x => exact simple hd
  | bad => exact simple hd
end
end Go.DM
