/- Every operation of the small machine does what the program's own does. -/
import Derived.Test.YtgbifpijjfolbaaGreatK441SimJ
import Derived.Orders
import Derived.Tactics
set_option linter.all false
namespace Go.DM
variable [Tok]
section
variable {P : Program} {X : Cx} {φ : Nat → Option Loc} {w w' : World} {σ : St} {a : Act}
def Bodies (P : Program) (ρ : Nat → Nat) (Γ : Nat → Option Fn) : Prop := ∀ f fn, Γ f = some fn → ∃ g c, P.funcs[ρ f]? = some g ∧ g.body = some c ∧ g.name ≠ "runtime.NumGoroutine"
theorem callFunc_enter {Γ : Nat → Option Fn} (hB : Bodies P X.ρ Γ) {f : Nat} {fn : Fn} (hf : Γ f = some fn) (vs : Array Value) (w : World) : (callFunc (X.ρ f) vs).run P w = .ok (.enter (X.ρ f) vs) w := by
  obtain ⟨g, c, h1, h2, h3⟩ := hB f fn hf
  simp [callFunc, h1, h2, h3]
theorem callee_args {X : Cx} {p q : List A} {xs : List V} {ps qs us : List Value} (h1 : All2 (ARel X φ w) p ps) (h2 : All2 (VRel X φ w) xs us) (h3 : All2 (ARel X φ w) q qs) :
    All2 (VRel X φ w) (p.map V.a ++ xs ++ q.map V.a) (ps ++ us ++ qs) := by
  have e : ∀ {xs : List A} {vs : List Value}, All2 (ARel X φ w) xs vs → All2 (VRel X φ w) (xs.map V.a) vs := fun {xs vs} h =>
    ⟨by simp [h.1], fun i x v hx hv => by
      simp only [List.getElem?_map, Option.map_eq_some_iff] at hx
      obtain ⟨y, hy, rfl⟩ := hx
      exact h.2 i y v hy hv⟩
  exact (e h1).append h2 |>.append (e h3)
theorem callee_sim {Γ : Nat → Option Fn} (hB : Bodies P X.ρ Γ) (b : Base X φ σ a w) {g : Go.Oper} {m : Op} {f : Nat} {vs : List V} {fn : Fn} (hok : okO P X.ρ g.op m = true) (h : callee σ m = some (f, vs)) (hf : Γ f = some fn) :
    ∃ us : List Value, (execOp a.eval g).run P w = .ok (.enter (X.ρ f) us.toArray) w ∧ All2 (VRel X φ w) vs us := by
  obtain ⟨gd, gop, gt, gp, ga, gg⟩ := g
  simp only at hok
  unfold okO at hok
  split at hok <;> first | (simp [callee] at h; done) | (cases hok; done) | skip
  · rename_i f0 gargs _ f' as
    simp only [Bool.and_eq_true] at hok
    obtain ⟨h1, h2⟩ := hok
    have e := eq_of_beq h1
    subst e
    simp only [callee, Option.some.injEq, Prod.mk.injEq] at h
    obtain ⟨rfl, rfl⟩ := h
    refine ⟨gargs.toList.map a.eval, ?_, okXs_sim b h2⟩
    have e2 : Array.map a.eval gargs = (gargs.toList.map a.eval).toArray := by
      apply Array.ext'; simp
    simp only [execOp, resolve, Act.eval, Deferred.ofValue, Sem.run_bind, Sem.run_pure, Result.andThen_ok, invoke]
    rw [show (#[] ++ Array.map a.eval gargs ++ #[] : Array Value) = (gargs.toList.map a.eval).toArray from by rw [← e2]; simp]
    exact callFunc_enter hB hf _ w
  · rename_i t gargs _ x as
    simp only [Bool.and_eq_true] at hok
    obtain ⟨h1, h2⟩ := hok
    have hx := okX_sim b h1
    have hargs := okXs_sim b h2
    have e2 : Array.map a.eval gargs = (gargs.toList.map a.eval).toArray := by
      apply Array.ext'; simp
    have run : ∀ (ats : Array TypeId) (g : Nat) (ps qs : List Value), X.ρ g = X.ρ f → a.eval (.tmp t) = .func (.func (X.ρ g)) ps.toArray qs.toArray →
        (execOp a.eval { dst := gd, op := Go.Op.call { callee := .value (.tmp t), args := gargs, argTypes := ats }, type := gt, pos := gp, after := ga, guard := gg }).run P w = .ok (.enter (X.ρ f) (ps ++ gargs.toList.map a.eval ++ qs).toArray) w := by
      intro ats g ps qs eg he
      simp only [execOp, resolve, he, Deferred.ofValue, Sem.run_bind, Sem.run_pure, Result.andThen_ok, invoke]
      rw [eg, show (ps.toArray ++ Array.map a.eval gargs ++ qs.toArray : Array Value) = (ps ++ gargs.toList.map a.eval ++ qs).toArray from by rw [e2]; apply Array.ext'; simp]
      exact callFunc_enter hB hf _ w
    simp only [callee] at h
    split at h
    · rename_i f' p q heq
      simp only [Option.some.injEq, Prod.mk.injEq] at h
      obtain ⟨rfl, rfl⟩ := h
      rw [heq] at hx
      obtain ⟨ps, qs, e3, e4, e5⟩ := hx
      exact ⟨_, run _ _ ps qs rfl e3, callee_args e4 hargs e5⟩
    · rename_i f' p q heq
      simp only [Option.some.injEq, Prod.mk.injEq] at h
      obtain ⟨rfl, rfl⟩ := h
      rw [heq] at hx
      have hx : DRel _ _ _ _ _ := hx
      generalize hev : a.eval (.tmp t) = fv at hx
      cases hx with
      | clo _ _ _ ps qs hp hq g1 g2 =>
        refine ⟨_, run _ _ ps qs rfl hev, ?_⟩
        have k1 : All2 (ARel X φ w) (p.map A.d) ps := ⟨by simp [hp], fun i x v hx hv => by
          simp only [List.getElem?_map, Option.map_eq_some_iff] at hx
          obtain ⟨y, hy, rfl⟩ := hx
          exact g1 i y v hy hv⟩
        have k2 : All2 (ARel X φ w) (q.map A.d) qs := ⟨by simp [hq], fun i x v hx hv => by
          simp only [List.getElem?_map, Option.map_eq_some_iff] at hx
          obtain ⟨y, hy, rfl⟩ := hx
          exact g2 i y v hy hv⟩
        have := callee_args k1 hargs k2
        simpa [List.map_map, Function.comp_def] using this
    · cases h
def Leads (P : Program) (X : Cx) (σ : St) (r : Dl) (φ : Nat → Option Loc) (a : Act) (w : World) (o : Go.Oper) : Prop :=
  (∃ u w' n, (execOp a.eval o).run P w = .ok n w' ∧ (n = .value u ∨ (n = .skip ∧ u = Go.undef)) ∧ ∃ φ', Does X σ r φ φ' w w' u) ∨
  (∃ f us, (execOp a.eval o).run P w = .ok (.enter f us) w ∧ Go.Calls P f us w fun e w' => ∃ u, e = .returned u ∧ ∃ φ', Does X σ r φ φ' w w' u)
theorem Leads.wp {B : Nat} {M : List Reg} {r : Dl} {o : Go.Oper} {next : Act → World → Prop} {Q : Exit → Act → World → Prop} (h : Leads P X σ r φ a w o)
    (hn : ∀ u w' φ', Does X σ r φ φ' w w' u → next (a.put o.dst u) w') : o.wp P a w next Q := by
  unfold Oper.wp
  rcases h with ⟨u, w', n, h1, h2, φ', h3⟩ | ⟨f, us, h1, h2⟩
  · rw [h1]
    rcases h2 with rfl | ⟨rfl, rfl⟩
    · exact hn u w' φ' h3
    · exact hn _ w' φ' h3
  · rw [h1]
    refine Calls.mono h2 fun e w' he => ?_
    obtain ⟨u, rfl, φ', h3⟩ := he
    exact hn u w' φ' h3
theorem delta_sim {B : Nat} {M : List Reg} {Γ : Nat → Option Fn} {call : Calls} (hB : Bodies P X.ρ Γ) (hS : Sound P X.ρ X.κ call) (h : Rel X B M φ σ a w) {g : Go.Oper} {m : Op} {r : Dl} (hok : okO P X.ρ g.op m = true)
    (hd : delta Γ call g.dst σ m = some r) : Leads P X σ r φ a w g := by
  have b := h.base
  -- the operations that only compute, or make memory
  have simple : (match quiet σ m with
      | some v => some { v := v }
      | none => g.dst.bind fun d => (makes σ d m).map fun p => ({ v := p.1, kills := p.2.map (·.1), puts := p.2 } : Dl)) = some r → Leads P X σ r φ a w g := by
    intro hd
    split at hd
    · rename_i v hq
      cases hd
      obtain ⟨u, h1, h2⟩ := quiet_sim b hok hq
      exact .inl ⟨u, w, _, h1, .inl rfl, φ, Does.quiet h2⟩
    · rw [obs] at hd
      obtain ⟨d, _, hd⟩ := hd
      rw [Option.map_eq_some_iff] at hd
      obtain ⟨⟨v, ps⟩, h1, rfl⟩ := hd
      obtain ⟨u, w', h2, φ', h3⟩ := makes_sim b h.lt hok h1
      exact .inl ⟨u, w', _, h2, .inl rfl, φ', h3⟩
  -- a call
  have calling : (callee σ m).bind (fun p => (callF Γ call σ p.1 p.2).bind fun r =>
      match g.dst with
      | some d => (retsV p.2 d r.1.rets).bind fun q => if q.2.all (fun x => !(r.2.map (·.1)).contains x.1) then some ({ v := q.1, kills := q.2.map (·.1), puts := r.2 ++ q.2 } : Dl) else none
      | none => some { v := .undef, puts := r.2 }) = some r → Leads P X σ r φ a w g := by
    intro hd
    rw [obs] at hd
    obtain ⟨⟨f, vs⟩, hc, hd⟩ := hd
    rw [obs] at hd
    obtain ⟨⟨rr, ps⟩, hcf, hd⟩ := hd
    simp only [callF] at hcf
    rw [obs] at hcf
    obtain ⟨fn, hfn, hcf⟩ := hcf
    split at hcf
    · rename_i hnd
      rw [obs] at hcf
      obtain ⟨as, has, hcf⟩ := hcf
      rw [obs] at hcf
      obtain ⟨rr', hcall, hcf⟩ := hcf
      rw [Option.map_eq_some_iff] at hcf
      obtain ⟨ps', hbk, hcf⟩ := hcf
      cases hcf
      obtain ⟨us, hrun, hvs⟩ := callee_sim hB b hok hc hfn
      have hargs := argsRel h hnd has hvs
      have hreg : ∀ m ∈ some? (snds (regs φ σ fn.muts vs)), X.κ.n0 ≤ m.1 := by
        intro m hm
        obtain ⟨i, hi⟩ := some?_mem.1 hm
        obtain ⟨o, ho⟩ := snds_get hi
        obtain ⟨_, _, _, k4⟩ := args_sim (Mt := []) h (ids := mutIds fn.muts vs) (fun m hm => by cases hm) has hvs
        obtain ⟨ob, l, g1, g2, g3, _⟩ := k4 i _ ho
        have h4 := (h.own _ ob l g1 g2).2.2
        rw [← g3]
        cases hp : parLen ob with
        | none => rw [hp] at h4; exact Nat.le_trans h.know.2.1 h4
        | some n => rw [hp] at h4; exact h.know.2.2.1 _ h4
      refine .inr ⟨_, _, hrun, Calls.mono (hS f as rr hcall w us _ hargs h.know.1 (Nat.le_trans h.know.2.1 h.low) hreg) fun e w' he => ?_⟩
      obtain ⟨v, rfl, hres⟩ := he
      refine ⟨v, rfl, ?_⟩
      obtain ⟨hleft, ⟨rvs, bs, hv, n1, n2, hret, hbs⟩, houts⟩ := hres
      obtain ⟨A, Bk, _⟩ := backs_sim has hvs houts hbk
      have hdm : ∀ (news : List (Nat × Ob)), (∀ p ∈ news, ∀ q ∈ ps, p.1 ≠ q.1) → ∀ p ∈ news, ∀ (i o : Nat) (m : Reg), (regs φ σ fn.muts vs)[i]? = some (some (o, m)) → p.1 ≠ o := by
        intro news hd p hp i o m hi e
        have hm : m ∈ some? (snds (regs φ σ fn.muts vs)) := some?_mem.2 ⟨i, by simp [snds, hi]⟩
        obtain ⟨o', ob', ho', l', e1, e2⟩ := Bk m hm
        obtain ⟨_, _, _, k4⟩ := args_sim (Mt := []) h (ids := mutIds fn.muts vs) (fun m hm => by cases hm) has hvs
        obtain ⟨ob, l, g1, g2, g3, _⟩ := k4 i _ hi
        obtain ⟨p', old', l2, off', c', r1, r2, _⟩ := A o' ob' ho'
        rw [e1] at r2; cases r2
        have := h.inj o o' _ _ l _ g1 r1 g2 e1 (g3.trans e2.symm)
        subst this
        exact hd p hp _ ho' e
      have hbs' : ∀ (ls : List (Nat × Loc)) (k : Nat → Nat), (∀ p ∈ ls, ∃ j b', bs[j]? = some (some b') ∧ p.2.1 = b' ∧ p.1 = k j) → ∀ p ∈ ls, ∀ q ∈ ls, p.2.1 = q.2.1 → p.1 = q.1 := by
        intro ls k hl p hp q hq e
        obtain ⟨j, b', e1, e2, e3⟩ := hl p hp
        obtain ⟨j', b'', e1', e2', e3'⟩ := hl q hq
        have : b' = b'' := by rw [← e2, ← e2', e]
        subst this
        have := hbs j j' b' e1 e1'
        rw [e3, e3', this]
      cases hdst : g.dst with
      | none =>
        rw [hdst] at hd
        cases hd
        obtain ⟨φ', hdo⟩ := call_does (V0 := .undef) (v := v) (news := []) (ls := []) (bs := bs) h has hvs hleft houts hbk (fun p hp => by cases hp) (fun p hp => by cases hp) (fun p hp => by cases hp) (fun i ob hp => by cases hp) (fun p hp => by cases hp) (fun _ _ _ => trivial) hnd (fun p hp => by cases hp)
        exact ⟨φ', by simpa using hdo⟩
      | some d =>
        rw [hdst] at hd
        rw [obs] at hd
        obtain ⟨⟨V0, news⟩, hrv, hd⟩ := hd
        simp only at hd
        split at hd
        · rename_i hdis
          cases hd
          have hdis' : ∀ p ∈ news, ∀ q ∈ ps, p.1 ≠ q.1 := by
            intro p hp q hq e
            have := List.all_eq_true.1 hdis p hp
            have h2 : (ps.map (·.1)).contains p.1 = true := by
              simp only [List.contains_iff_mem, List.mem_map]
              exact ⟨q, hq, e.symm⟩
            rw [h2] at this; cases this
          unfold retsV at hrv
          split at hrv
          · rename_i x heq
            rw [Option.map_eq_some_iff] at hrv
            obtain ⟨⟨y, n0⟩, hrv, hq⟩ := hrv
            cases hq
            rw [heq] at n1 n2 hret
            obtain ⟨u, rfl⟩ : ∃ u, rvs = [u] := by
              cases rvs with
              | nil => simp at n1
              | cons u us =>
                cases us with
                | nil => exact ⟨u, rfl⟩
                | cons _ _ => simp at n1
            obtain ⟨b0, rfl⟩ : ∃ b0, bs = [b0] := by
              cases bs with
              | nil => simp at n2
              | cons u us =>
                cases us with
                | nil => exact ⟨u, rfl⟩
                | cons _ _ => simp at n2
            obtain ⟨ls, a0, a1, a2, a3, a4⟩ := retV_sim (X := X) hrv (hret 0 x u b0 rfl rfl rfl)
            have hv' : v = u := hv
            subst hv'
            exact call_does (V0 := .a y) (bs := [b0]) h has hvs hleft houts hbk hdis' a0 (fun p hp q hq _ => by
              obtain ⟨_, _, _, e1⟩ := a1 p hp
              obtain ⟨_, _, _, e2⟩ := a1 q hq
              rw [e1, e2]) a2 a3 a4 hnd (hdm _ hdis')
          · rename_i hne
            rw [Option.map_eq_some_iff] at hrv
            obtain ⟨⟨ys, n0⟩, hrv, hq⟩ := hrv
            cases hq
            obtain ⟨ls, a0, a1, a2, a3, a4⟩ := retVs_sim (X := X) hrv n1 n2 hret
            have hv' : v = .tuple rvs.toArray := by
              rw [hv]
              unfold packed
              split
              · rename_i u
                exfalso
                obtain ⟨x, hx⟩ : ∃ x, rr.rets = [x] := by
                  cases hq : rr.rets with
                  | nil => rw [hq] at n1; simp at n1
                  | cons x xs =>
                    cases xs with
                    | nil => exact ⟨x, rfl⟩
                    | cons _ _ => rw [hq] at n1; simp at n1
                exact hne x hx
              · rfl
            exact call_does (V0 := .tup ys) (bs := bs) h has hvs hleft houts hbk hdis' a0 (hbs' ls _ a1) a2 a3 (fun φ2 h1 h2 => ⟨rvs, hv', a4 φ2 h1 h2⟩) hnd (hdm _ hdis')
        · cases hd
    · cases hcf
  cases m with
  | store n x v =>
    obtain ⟨gd, gop, gt, gp, ga, gg⟩ := g
    simp only at hok hd
    unfold okO at hok
    split at hok <;> first | (cases hok; done) | skip
    all_goals (rename_i heq; cases heq)
    rename_i T gx gy
    simp only [Bool.and_eq_true] at hok
    obtain ⟨⟨h1, h2⟩, h3⟩ := hok
    have hx := okX_sim b h1
    simp only [delta] at hd
    split at hd
    · rename_i o off heq
      rw [heq] at hx
      obtain ⟨l, e1, e2⟩ := hx
      rw [obs] at hd
      obtain ⟨ob, hob, hd⟩ := hd
      rw [Option.map_eq_some_iff] at hd
      obtain ⟨ob', hst, rfl⟩ := hd
      obtain ⟨w', h4, h5⟩ := store_sim h h3 hob e1 (okX_sim b h2) hst
      refine .inl ⟨Go.undef, w', .skip, ?_, .inr ⟨rfl, rfl⟩, φ, h5⟩
      simp [execOp, Instr.storeAt, e2, Instr.sureAddr, h4]
    · cases hd
  | ren x =>
    obtain ⟨gd, gop, gt, gp, ga, gg⟩ := g
    simp only at hok hd
    unfold okO at hok
    split at hok <;> first | (cases hok; done) | skip
    all_goals (rename_i heq; cases heq)
    have hx := okX_sim b hok
    simp only [delta] at hd
    split at hd
    · rename_i o off n es d heq
      rw [heq] at hx
      split at hd
      · cases hd
        exact .inl ⟨_, w, _, rfl, .inl rfl, φ, Does.quiet hx⟩
      · rename_i hne
        split at hd
        · rename_i cs hob
          cases hd
          obtain ⟨φ', h2⟩ := ren_sim h hx hne hob
          exact .inl ⟨_, w, _, rfl, .inl rfl, φ', h2⟩
        · cases hd
    · cases hd
      exact .inl ⟨_, w, _, rfl, .inl rfl, φ, Does.quiet hx⟩
  | app es x y =>
    obtain ⟨gd, gop, gt, gp, ga, gg⟩ := g
    simp only at hok hd
    unfold okO at hok
    split at hok <;> first | (cases hok; done) | skip
    all_goals (rename_i heq; cases heq)
    rename_i gargs ats
    simp only [Bool.and_eq_true] at hok
    obtain ⟨h1, h2⟩ := hok
    obtain ⟨gx, gy, rfl, h3, h4⟩ := args2 h1
    obtain ⟨ats⟩ := ats
    simp only at h2
    split at h2
    · rename_i T T'
      simp only [Bool.and_eq_true] at h2
      obtain ⟨h2, h5⟩ := h2
      split at h2
      · rename_i e he
        simp only [Bool.and_eq_true] at h2
        obtain ⟨⟨⟨h6, h7⟩, h8⟩, h9⟩ := h2
        split at h9
        · rename_i i hi
          split at h9
          · rename_i z hz
            simp only [delta] at hd
            obtain ⟨z', w', k1, k2⟩ := append_sim (P := P) (T' := T') (ty := gt) h he hi hz h6 (eq_of_beq h9) (by simpa using h7) h8 (by simpa using h5) (okX_sim b h3) (okX_sim b h4) hd
            refine .inl ⟨z', w', _, ?_, .inl rfl, k2⟩
            simp [execOp, resolve, invoke, builtin, k1]
          · cases h9
        · cases h9
      · cases h2
    · cases h2
  | clr es zs x =>
    obtain ⟨gd, gop, gt, gp, ga, gg⟩ := g
    simp only at hok hd
    unfold okO at hok
    split at hok <;> first | (cases hok; done) | skip
    all_goals (rename_i heq; cases heq)
    rename_i gargs ats
    simp only [Bool.and_eq_true] at hok
    obtain ⟨h1, h2⟩ := hok
    obtain ⟨gx, rfl, h3⟩ := args1 h1
    obtain ⟨ats⟩ := ats
    simp only at h2
    split at h2
    · rename_i T
      split at h2
      · rename_i e he
        simp only [Bool.and_eq_true] at h2
        obtain ⟨h4, h5⟩ := h2
        have hx := okX_sim b h3
        simp only [delta] at hd
        split at hd
        · rename_i heq
          cases hd
          rw [heq] at hx
          refine .inl ⟨.tuple #[], w, _, ?_, .inl rfl, φ, Does.quiet ⟨[], rfl, .nil⟩⟩
          have := sv_rel hx
          simp [execOp, resolve, invoke, builtin, this, enc_nils, Builtin.clear_, run_underlying (sliceOf_eq he)]
        · rename_i o off n es' heq
          rw [heq] at hx
          split at hd
          · rename_i p cs hob
            split at hd
            · rename_i hc
              obtain ⟨rfl, hc2, hc3⟩ := hc
              cases hd
              obtain ⟨w', k1, k2⟩ := clr_sim (P := P) (ty := gt) h he h4 hc2 hx hob hc3
              refine .inl ⟨.tuple #[], w', _, ?_, .inl rfl, φ, k2⟩
              simp [execOp, resolve, invoke, builtin, k1]
            · cases hd
          · cases hd
        · cases hd
      · cases h2
    · cases h2
  | cpy es x y =>
    obtain ⟨gd, gop, gt, gp, ga, gg⟩ := g
    simp only at hok hd
    unfold okO at hok
    split at hok <;> first | (cases hok; done) | skip
    all_goals (rename_i heq; cases heq)
    rename_i gargs ats
    simp only [Bool.and_eq_true] at hok
    obtain ⟨h1, h2⟩ := hok
    obtain ⟨gx, gy, rfl, h3, h4⟩ := args2 h1
    obtain ⟨ats⟩ := ats
    simp only at h2
    split at h2
    · rename_i T T'
      simp only [Bool.and_eq_true] at h2
      obtain ⟨h2, h5⟩ := h2
      split at h2
      · rename_i e he
        simp only [Bool.and_eq_true] at h2
        obtain ⟨h6, h7⟩ := h2
        have hx := okX_sim b h3
        have hy := okX_sim b h4
        simp only [delta] at hd
        split at hd
        · cases hd
        · rename_i hns
          split at hd
          · cases hd
          · rename_i m ys hel
            split at hd
            · rename_i o off n es' hxe
              rw [hxe] at hx
              split at hd
              · rename_i p cs hob
                split at hd
                · rename_i hc
                  obtain ⟨rfl, hle⟩ := hc
                  cases hd
                  obtain ⟨w', k1, k2⟩ := cpy_sim (P := P) (T' := T') (ty := gt) h he h6 (by simpa using h7) (fun s hs => hns s hs) hx hy hel hob hle
                  refine .inl ⟨_, w', _, ?_, .inl rfl, φ, k2⟩
                  simp [execOp, resolve, invoke, builtin, k1]
                · cases hd
              · cases hd
            · cases hd
      · cases h2
    · cases h2
  | call f xs => exact calling hd
  | callv x xs => exact calling hd
  | mput vn ks m k v =>
    obtain ⟨gd, gop, gt, gp, ga, gg⟩ := g
    simp only at hok hd
    have put : ∀ {T : TypeId} {gm gk gv : Operand}, okX X.ρ gm m = true → okX X.ρ gk k = true → okX X.ρ gv v = true → okMap P T ks vn = true → ∃ w', (Instr.mapUpdate T (a.eval gm) (a.eval gk) (a.eval gv)).run P w = .ok () w' ∧ Does X σ r φ φ w w' Go.undef := by
      intro T gm gk gv h1 h2 h3 h4
      have hx := okX_sim b h1
      simp only [delta] at hd
      split at hd
      · rename_i o heq
        rw [heq] at hx
        split at hd
        · rename_i ks' es hob
          rw [obs] at hd
          obtain ⟨key, h5, hd⟩ := hd
          rw [obs] at hd
          obtain ⟨val, h6, hd⟩ := hd
          split at hd
          · rename_i hc
            obtain ⟨rfl, hc2, hc3⟩ := hc
            cases hd
            exact mput_sim h h4 hx (okX_sim b h2) (okX_sim b h3) hob h5 h6 hc2 hc3
          · cases hd
        · cases hd
      · cases hd
    unfold okO at hok
    split at hok <;> first | (cases hok; done) | skip
    all_goals (rename_i heq; cases heq)
    all_goals
      simp only [Bool.and_eq_true] at hok
      obtain ⟨⟨⟨h1, h2⟩, h3⟩, h4⟩ := hok
      obtain ⟨w', k1, k2⟩ := put h1 h2 h3 h4
      refine .inl ⟨Go.undef, w', .skip, ?_, .inr ⟨rfl, rfl⟩, φ, k2⟩
      simp [execOp, k1]
  | ment vn zv ks m k =>
    obtain ⟨gd, gop, gt, gp, ga, gg⟩ := g
    simp only at hok hd
    unfold okO at hok
    split at hok <;> first | (cases hok; done) | skip
    all_goals (rename_i heq; cases heq)
    simp only [Bool.and_eq_true] at hok
    obtain ⟨⟨⟨h1, h2⟩, h3⟩, h4⟩ := hok
    have hx := okX_sim b h1
    simp only [delta] at hd
    split at hd
    · rename_i o heq
      rw [heq] at hx
      split at hd
      · rename_i ks' es hob
        rw [obs] at hd
        obtain ⟨key, h5, hd⟩ := hd
        split at hd
        · rename_i hc
          obtain ⟨rfl, hc2, hc3⟩ := hc
          cases hd
          obtain ⟨v', w', k1, k2⟩ := ment_sim h h3 h4 hx (okX_sim b h2) hob h5 hc2
          refine .inl ⟨v', w', .value v', ?_, .inl rfl, φ, k2⟩
          simp [execOp, k1]
        · cases hd
      · cases hd
    · cases hd
  | mest vn m s v =>
    obtain ⟨gd, gop, gt, gp, ga, gg⟩ := g
    simp only at hok hd
    unfold okO at hok
    split at hok <;> first | (cases hok; done) | skip
    all_goals (rename_i heq; cases heq)
    simp only [Bool.and_eq_true] at hok
    obtain ⟨⟨h1, h2⟩, h3⟩ := hok
    have hx := okX_sim b h1
    have hs := okX_sim b h2
    simp only [delta] at hd
    split at hd
    · rename_i o heq
      rw [heq] at hx
      split at hd
      · rename_i ks es hob
        split at hd
        · rename_i j hsj
          rw [hsj] at hs
          rw [obs] at hd
          obtain ⟨val, h6, hd⟩ := hd
          split at hd
          · rename_i hc
            obtain ⟨hc1, hc2, hc3⟩ := hc
            cases hd
            obtain ⟨w', k1, k2⟩ := mest_sim (P := P) h hx hs (okX_sim b h3) hob h6 hc3 ⟨hc1, hc2⟩
            refine .inl ⟨Go.undef, w', .skip, ?_, .inr ⟨rfl, rfl⟩, φ, k2⟩
            simp [execOp, k1]
          · cases hd
        · cases hd
      · cases hd
    · cases hd
  | mv x => exact simple hd
  | pick c x y => exact simple hd
  | alloc zs => exact simple hd
  | box n x => exact simple hd
  | build zs ps => exact simple hd
  | bsl es n zs ps => exact simple hd
  | bslr n ps => exact simple hd
  | load n ag x => exact simple hd
  | nilc x => exact simple hd
  | bin op x y => exact simple hd
  | eqa ng ag ks x y => exact simple hd
  | un op x => exact simple hd
  | conv k x => exact simple hd
  | mkf f p q => exact simple hd
  | slc k x lo hi => exact simple hd
  | fld off n ag x => exact simple hd
  | fadr off x => exact simple hd
  | idxs es x i => exact simple hd
  | idxa n es x i => exact simple hd
  | idxstr x i => exact simple hd
  | idxagg n es ag x i => exact simple hd
  | ext x i => exact simple hd
  | len k x => exact simple hd
  | mm mx x y => exact simple hd
  | mks es zs l c => exact simple hd
  | mkm ks => exact simple hd
  | mget vn zv ks ok m k => exact simple hd
  | mki x => exact simple hd
  | bad => exact simple hd
end
end Go.DM

/- An operation in a region: in the order of the text, and where the order is drawn. -/
namespace Go.DM
variable [Tok]
section
variable {P : Program} {X : Cx} {φ φ' φ0 : Nat → Option Loc} {w0 w w' : World} {σ σ' : St} {a : Act} {B n : Nat} {M : List Reg}
theorem only_rel (h : Rel X B M φ σ a w) (ts : List Nat) : Rel X B M φ (only ts σ) a w :=
  ⟨fun t => by
    simp only [only]
    split
    · exact h.env t
    · trivial, h.objs, h.inj, h.own, h.lt, h.low, h.know⟩
theorem veil_rel (h : Rel X B M φ σ a w) (o : Oper) : Rel X B M φ (veil o σ) a w := (only_rel h _).kill _
theorem veil_objs (o : Oper) (σ : St) (i : Nat) (ob : Ob) (h : (veil o σ).objs i = some ob) : ∃ ob', σ.objs i = some ob' ∧ parLen ob' = parLen ob := by
  simp only [veil, DM.kill, only] at h
  split at h
  · cases h
  · rw [Option.map_eq_some_iff] at h
    obtain ⟨ob', h1, rfl⟩ := h
    exact ⟨ob', h1, (parLen_kill _ _).symm⟩
theorem lookP_map (hid : List Nat) : ∀ (ps : List (Nat × Ob)) (o : Nat), lookP (ps.map fun p => (p.1, killO hid p.2)) o = (lookP ps o).map (killO hid)
  | [], o => rfl
  | p :: ps, o => by
    simp only [List.map_cons, lookP, lookP_map hid ps o]
    cases lookP ps o with
    | some x => rfl
    | none => by_cases e : p.1 = o <;> simp [e]
theorem Shape.same (w : World) : Shape w w := fun _ c _ _ h => ⟨c, h, rfl⟩
theorem Does.hide {r : Dl} {u : Value} (d : Does X σ r φ φ' w w' u) (hid : List Nat) : Does X σ (hideD hid r) φ φ' w w' u := by
  have look : ∀ o ob, lookP (hideD hid r).puts o = some ob → ∃ ob', lookP r.puts o = some ob' ∧ ob = killO hid ob' := by
    intro o ob h
    simp only [hideD, lookP_map] at h
    rw [Option.map_eq_some_iff] at h
    obtain ⟨ob', h1, h2⟩ := h
    exact ⟨ob', h1, h2.symm⟩
  refine ⟨d.os, d.tape, d.output, d.size, d.shape, d.phi, ?_, ?_, ?_, ?_, ?_⟩
  · intro b hb h
    refine d.same b hb fun o ob l h1 h2 h3 => h o ob l h1 ?_ h3
    simp only [hideD, lookP_map, Option.isSome_map]
    exact h2
  · intro o ob h
    obtain ⟨ob', h1, rfl⟩ := look o ob h
    obtain ⟨l, g1, g2, g3, g4⟩ := d.puts o ob' h1
    refine ⟨l, g1, ObRel.kill (fun _ _ => rfl) (Shape.same w') (fun _ _ => rfl) rfl g2, g3, ?_⟩
    rw [parLen_kill]
    exact g4
  · intro o o' ob ob' l l' h1 h2
    obtain ⟨_, h1', _⟩ := look o ob h1
    obtain ⟨_, h2', _⟩ := look o' ob' h2
    exact d.inj o o' _ _ l l' h1' h2'
  · exact VRel.kill (fun _ _ => rfl) (Shape.same w') (fun _ _ => rfl) d.val
  · intro o ob m l h1 h2
    obtain ⟨ob', h1', rfl⟩ := look o ob h1
    rw [parLen_kill] at h2
    exact d.out o ob' m l h1' h2
structure Holds' (X : Cx) (M : List Reg) (φ0 : Nat → Option Loc) (w0 : World) (n : Nat) (φ : Nat → Option Loc) (σ : St) (a : Act) (w : World) : Prop where
  rel : Rel X w0.heap.size M φ σ a w
  left : Left M w0 w
  size : n ≤ a.tmps.size
  defers : a.defers = []
  par : ∀ (o : Nat) (ob : Ob) (k : Nat), σ.objs o = some ob → parLen ob = some k → φ o = φ0 o
def Holds (X : Cx) (M : List Reg) (φ0 : Nat → Option Loc) (w0 : World) (n : Nat) (σ : St) (a : Act) (w : World) : Prop := ∃ φ, Holds' X M φ0 w0 n φ σ a w
def isBad : Op → Bool | .bad => true | _ => false
def okOper (P : Program) (ρ : Nat → Nat) (n : Nat) (g : Go.Oper) (m : Oper) : Bool :=
  (isBad m.op || okO P ρ g.op m.op) && g.dst == m.dst && g.guard == m.guard && (match m.dst with | some d => decide (d < n) | none => true)
def okOpers (P : Program) (ρ : Nat → Nat) (n : Nat) : List Go.Oper → List Oper → Bool
  | [], [] => true
  | g :: gs, m :: ms => okOper P ρ n g m && okOpers P ρ n gs ms
  | _, _ => false
theorem okOpers_get {ρ : Nat → Nat} : ∀ {gs : List Go.Oper} {ms : List Oper}, okOpers P ρ n gs ms = true → gs.length = ms.length ∧ ∀ (j : Nat) (g : Go.Oper) (m : Oper), gs[j]? = some g → ms[j]? = some m → okOper P ρ n g m = true
  | [], [], _ => ⟨rfl, fun j g m h => by simp at h⟩
  | g :: gs, m :: ms, h => by
    simp only [okOpers, Bool.and_eq_true] at h
    obtain ⟨h1, h2⟩ := okOpers_get h.2
    refine ⟨by simp [h1], fun j g' m' hg hm => ?_⟩
    cases j with
    | zero => simp at hg hm; subst hg; subst hm; exact h.1
    | succ j => exact h2 j g' m' (by simpa using hg) (by simpa using hm)
  | [], _ :: _, h => by simp [okOpers] at h
  | _ :: _, [], h => by simp [okOpers] at h
theorem okOpers_dst {ρ : Nat → Nat} {gs : List Go.Oper} {ms : List Oper} (h : okOpers P ρ n gs ms = true) (j : Nat) : (gs.toArray[j]?).bind (·.dst) = dstsOf ms j := by
  obtain ⟨h1, h2⟩ := okOpers_get h
  simp only [dstsOf, List.getElem?_toArray]
  cases hg : gs[j]? with
  | none =>
    have : ms[j]? = none := by rw [List.getElem?_eq_none_iff] at hg ⊢; omega
    rw [this]; rfl
  | some g =>
    cases hm : ms[j]? with
    | none =>
      rw [List.getElem?_eq_none_iff] at hm
      have := (List.getElem?_eq_some_iff.1 hg).1
      omega
    | some m =>
      have := h2 j g m hg hm
      simp only [okOper, Bool.and_eq_true] at this
      simpa using this.1.1.2
theorem wanted_sim {gops : Array Go.Oper} {dsts : Nat → Option Nat} (hd : ∀ j, (gops[j]?).bind (·.dst) = dsts j) (he : ∀ t, VRel X φ w (σ.env t) (a.tmps.getD t Go.undef)) {g : Go.Oper} {b : Bool} (h : wanted dsts σ.env g.guard = some b) :
    Region.wanted g (yielded gops a.tmps) = b := by
  unfold wanted at h
  unfold Region.wanted
  split at h
  · rename_i hg; cases h; rw [hg]
  · rename_i j c hg
    rw [hg]
    rw [obs] at h
    obtain ⟨t, ht, h⟩ := h
    have het := he t
    split at h
    · rename_i x heq
      cases h
      rw [heq] at het
      have h1 := sv_rel het
      have h2 : a.tmps[t]? = some (.bool x) := by
        rw [Array.getD_eq_getD_getElem?] at h1
        cases hq : a.tmps[t]? with
        | none => rw [hq] at h1; cases h1
        | some y => rw [hq] at h1; simp only [Option.getD_some] at h1; rw [h1]; rfl
      simp only [yielded, hd, ht, Option.bind_some, h2]
      cases x <;> cases c <;> rfl
    · rename_i heq
      cases h
      rw [heq] at het
      obtain ⟨vs, h1, h2⟩ := het
      have := h2.nil_left
      subst this
      have h3 : ∀ b, a.tmps[t]? ≠ some (.bool b) := by
        intro b hb
        rw [Array.getD_eq_getD_getElem?, hb] at h1
        cases h1
      have h4 : yielded gops a.tmps j = none := by
        unfold yielded
        rw [hd, ht, Option.bind_some]
        split
        · rename_i b hb; exact (h3 b hb).elim
        · rfl
      simp only [h4]
      rfl
    · cases h
theorem Holds.apply {σ0 : St} {r : Dl} {dst : Option Nat} {u : Value} (h : Holds' X M φ0 w0 n φ σ a w) (hM : Apart M w0)
    (d : Does X σ0 r φ φ' w w' u) (h0 : ∀ o ob, σ0.objs o = some ob → ∃ ob', σ.objs o = some ob' ∧ parLen ob' = parLen ob) (hd : ∀ t, dst = some t → t < n) (hk : noPar σ r.kills = true) :
    Holds X M φ0 w0 n (applyD dst r σ) (a.put dst u) w' := by
  refine ⟨φ', h.rel.apply d h0 (fun t ht => Nat.lt_of_lt_of_le (hd t ht) h.size), h.left.step rfl hM h.rel d h0 hk, ?_, ?_, ?_⟩
  · cases dst <;> simp [Act.put, h.size]
  · cases dst <;> simp [Act.put, h.defers]
  · intro o ob k ho hp
    have hobj : (applyD dst r σ).objs o = match lookP r.puts o with | some x => some x | none => (DM.kill r.kills σ).objs o := by
      have e1 : ∀ (v : V) (σ : St), (set dst v σ).objs = σ.objs := fun v σ => by cases dst <;> rfl
      rw [applyD, e1, objs_insertAll]; rfl
    rw [hobj] at ho
    cases hl : lookP r.puts o with
    | some x =>
      rw [hl] at ho; cases ho
      obtain ⟨l, g1, _, _, g4⟩ := d.puts o _ hl
      rcases g4 with ⟨_, g5⟩ | ⟨o0, ob0, l0, g5, g6, _, g7⟩
      · rw [g5] at hp; cases hp
      · rcases g7 with ⟨rfl, rfl, g8⟩ | ⟨_, _, g8⟩
        · obtain ⟨ob', k1, k2⟩ := h0 o0 ob0 g5
          have := h.par o0 ob' k k1 (by rw [k2, ← g8]; exact hp)
          rw [g1, ← this, g6]
        · rw [g8] at hp; cases hp
    | none =>
      rw [hl] at ho
      simp only [DM.kill] at ho
      split at ho
      · cases ho
      · rename_i hc
        rw [Option.map_eq_some_iff] at ho
        obtain ⟨ob', k1, rfl⟩ := ho
        rw [parLen_kill] at hp
        rw [d.phi o (by simpa using hc)]
        exact h.par o ob' k k1 hp
section
variable {Γ : Nat → Option Fn} {call : Calls} {gops : Array Go.Oper} {dsts : Nat → Option Nat} {g : Go.Oper} {m : Oper} {Q : Exit → Act → World → Prop}
theorem deltaG_wp {σ0 : St} {r : Dl} {hid : List Nat} {b : Bool} (hB : Bodies P X.ρ Γ) (hS : Sound P X.ρ X.κ call) (hM : Apart M w0) (hd : ∀ j, (gops[j]?).bind (·.dst) = dsts j) (hok : okOper P X.ρ n g m = true)
    (h : Holds' X M φ0 w0 n φ σ a w) (hr0 : Rel X w0.heap.size M φ σ0 a w) (h0 : ∀ o ob, σ0.objs o = some ob → ∃ ob', σ.objs o = some ob' ∧ parLen ob' = parLen ob)
    (hr : deltaG Γ call dsts m σ0 = some r) (hk : noPar σ r.kills = true) {K : Act → World → Prop} (hK : ∀ a' w', Holds X M φ0 w0 n (applyD m.dst (if b then hideD hid r else r) σ) a' w' → K a' w') :
    if Region.wanted g (yielded gops a.tmps) then g.wp P a w K Q ∨ (g.asks P a w ∧ LetsOut Q) else K (a.put g.dst Go.undef) w := by
  simp only [okOper, Bool.and_eq_true] at hok
  obtain ⟨⟨⟨h1, h2⟩, h3⟩, h4⟩ := hok
  have h2 : g.dst = m.dst := by simpa using h2
  have h3 : g.guard = m.guard := by simpa using h3
  have hdst : ∀ t, m.dst = some t → t < n := by
    intro t ht
    rw [ht] at h4
    exact of_decide_eq_true h4
  have fin : ∀ {u : Value} {w' : World} {φ' : Nat → Option Loc}, Does X σ0 r φ φ' w w' u → K (a.put m.dst u) w' := by
    intro u w' φ' d
    refine hK _ _ (Holds.apply h hM (σ0 := σ0) (φ' := φ') ?_ h0 hdst ?_)
    · cases b
      · exact d
      · exact d.hide hid
    · cases b <;> exact hk
  unfold deltaG at hr
  rw [obs] at hr
  obtain ⟨c, hc, hr⟩ := hr
  rw [← h3] at hc
  rw [wanted_sim hd hr0.env hc]
  cases c with
  | true =>
    simp only [if_true] at hr ⊢
    rw [Bool.or_eq_true] at h1
    have h1 : okO P X.ρ g.op m.op = true := by
      rcases h1 with h1 | h1
      · unfold isBad at h1
        split at h1
        · rename_i heq
          rw [heq] at hr
          simp only [delta, quiet, makes] at hr
          cases hd : m.dst <;> rw [hd] at hr <;> simp at hr
        · cases h1
      · exact h1
    rw [← h2] at hr
    refine .inl (Leads.wp (B := w0.heap.size) (M := M) (delta_sim hB hS hr0 h1 hr) fun u w' φ' d => ?_)
    rw [h2]
    exact fin d
  | false =>
    simp only [Bool.false_eq_true, if_false] at hr ⊢
    cases hr
    rw [h2]
    exact fin (Does.quiet ⟨[], rfl, .nil⟩)
theorem step_wp (hB : Bodies P X.ρ Γ) (hS : Sound P X.ρ X.κ call) (hM : Apart M w0) (hd : ∀ j, (gops[j]?).bind (·.dst) = dsts j) (hok : okOper P X.ρ n g m = true) (h : Holds X M φ0 w0 n σ a w) (hs : step Γ call dsts m σ = some σ')
    {K : Act → World → Prop} (hK : ∀ a' w', Holds X M φ0 w0 n σ' a' w' → K a' w') :
    if Region.wanted g (yielded gops a.tmps) then g.wp P a w K Q ∨ (g.asks P a w ∧ LetsOut Q) else K (a.put g.dst Go.undef) w := by
  obtain ⟨φ, h1⟩ := h
  unfold step at hs
  rw [obs] at hs
  obtain ⟨r, hr, hs⟩ := hs
  split at hs
  · rename_i hk
    cases hs
    exact deltaG_wp (b := false) (hid := []) hB hS hM hd hok h1 h1.rel (fun o ob h => ⟨ob, h, rfl⟩) hr hk (by simpa using hK)
  · cases hs
theorem stepH_wp (hB : Bodies P X.ρ Γ) (hS : Sound P X.ρ X.κ call) (hM : Apart M w0) (hd : ∀ j, (gops[j]?).bind (·.dst) = dsts j) (hok : okOper P X.ρ n g m = true) (h : Holds X M φ0 w0 n σ a w) (hs : stepH Γ call dsts m σ = some σ')
    {K : Act → World → Prop} (hK : ∀ a' w', Holds X M φ0 w0 n σ' a' w' → K a' w') :
    if Region.wanted g (yielded gops a.tmps) then g.wp P a w K Q ∨ (g.asks P a w ∧ LetsOut Q) else K (a.put g.dst Go.undef) w := by
  obtain ⟨φ, h1⟩ := h
  unfold stepH at hs
  rw [obs] at hs
  obtain ⟨r, hr, hs⟩ := hs
  split at hs
  · rename_i hk
    simp only [Bool.and_eq_true] at hk
    cases hs
    exact deltaG_wp (b := true) (hid := m.hid) hB hS hM hd hok h1 (veil_rel h1.rel m) (veil_objs m σ) hr hk.2 (by simpa using hK)
  · cases hs
theorem run_wp (hB : Bodies P X.ρ Γ) (hS : Sound P X.ρ X.κ call) (hM : Apart M w0) (hd : ∀ j, (gops[j]?).bind (·.dst) = dsts j) (hQ : ∀ a' w', Holds X M φ0 w0 n σ' a' w' → Q .normal a' w') :
    ∀ {gs : List Go.Oper} {ms : List Oper} {σ : St} {a : Act} {w : World}, okOpers P X.ρ n gs ms = true → Holds X M φ0 w0 n σ a w → run (step Γ call dsts) ms σ = some σ' → wpList P gops Q gs a w
  | [], [], σ, a, w, _, h, hr => by cases hr; exact hQ _ _ h
  | g :: gs, m :: ms, σ, a, w, hok, h, hr => by
    simp only [okOpers, Bool.and_eq_true] at hok
    simp only [run] at hr
    rw [obs] at hr
    obtain ⟨σ1, hs, hr⟩ := hr
    exact step_wp hB hS hM hd hok.1 h hs fun a' w' h' => run_wp hB hS hM hd hQ hok.2 h' hr
  | [], _ :: _, _, _, _, hok, _, _ => by simp [okOpers] at hok
  | _ :: _, [], _, _, _, hok, _, _ => by simp [okOpers] at hok
theorem region_wp {id : Nat} {ms : List Oper} (hB : Bodies P X.ρ Γ) (hS : Sound P X.ρ X.κ call) (hM : Apart M w0) (hQ : ∀ a' w', Holds X M φ0 w0 n σ' a' w' → Q .normal a' w') (hok : okOpers P X.ρ n gops.toList ms = true) (h : Holds X M φ0 w0 n σ a w)
    (hr : region Γ call ms false σ = some σ') : (Go.Code.region id gops false).wp P Q a w :=
  wp_region_list (run_wp hB hS hM (fun j => by simpa using okOpers_dst hok j) hQ hok h (by simpa [region] using hr))
end
end
end Go.DM
