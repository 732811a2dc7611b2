/- Runs of the small machine, without a count of steps. Plain rules. -/
import Derived.Test.YtgbifpijjfolbaaGreatK441
import Derived.Test.YtgbifpijjfolbaaGreatK441SimP
import Derived.WalkKit
import Derived.ProofKit
import Derived.OpenShut
import Derived.ShutString
import Derived.ChangeOld
import Derived.Below
import Derived.Carry
import Derived.Lib.Bytealg
import Derived.Lib.Repeat
import Derived.Lib.Join
import Derived.Lib.ItoaNum
import Derived.Lib.Replace
import Derived.Lib.SlTrimSet
import Derived.Lib.ParseIntB
import Derived.Lib.Strings
import Derived.Lib.FieldsP
set_option linter.all false
namespace Go.DM
variable [Tok]
def LeC (c c' : Calls) : Prop := ∀ f as r, c f as = some r → c' f as = some r
section
variable {Γ : Nat → Option Fn} {c c' : Calls}
theorem callF_mono (h : LeC c c') {σ : St} {f : Nat} {vs : List V} {r : Res × List (Nat × Ob)} (hr : callF Γ c σ f vs = some r) : callF Γ c' σ f vs = some r := by
  simp only [callF] at hr ⊢
  rw [obs] at hr
  obtain ⟨fn, h1, hr⟩ := hr
  rw [h1, Option.bind_some]
  split at hr
  · rename_i hn
    rw [if_pos hn]
    rw [obs] at hr
    obtain ⟨as, h2, hr⟩ := hr
    rw [h2, Option.bind_some]
    rw [obs] at hr
    obtain ⟨q, h3, hr⟩ := hr
    rw [h _ _ _ h3, Option.bind_some]
    exact hr
  · cases hr
theorem delta_mono (h : LeC c c') {dst : Option Nat} {σ : St} {op : Op} {r : Dl} (hr : delta Γ c dst σ op = some r) : delta Γ c' dst σ op = some r := by
  have call : ∀ {q : Option (Nat × List V)}, (q.bind fun p => (callF Γ c σ p.1 p.2).bind fun r =>
      match dst with
      | some d => (retsV p.2 d r.1.rets).bind fun q => if q.2.all (fun x => !(r.2.map (·.1)).contains x.1) then some ({ v := q.1, kills := q.2.map (·.1), puts := r.2 ++ q.2 } : Dl) else none
      | none => some { v := .undef, puts := r.2 }) = some r → (q.bind fun p => (callF Γ c' σ p.1 p.2).bind fun r =>
      match dst with
      | some d => (retsV p.2 d r.1.rets).bind fun q => if q.2.all (fun x => !(r.2.map (·.1)).contains x.1) then some ({ v := q.1, kills := q.2.map (·.1), puts := r.2 ++ q.2 } : Dl) else none
      | none => some { v := .undef, puts := r.2 }) = some r := by
    intro q hr
    rw [obs] at hr
    obtain ⟨p, h1, hr⟩ := hr
    rw [h1, Option.bind_some]
    rw [obs] at hr
    obtain ⟨q, h2, hr⟩ := hr
    rw [callF_mono h h2, Option.bind_some]
    exact hr
  cases op <;> first
    | exact hr
    | exact call (q := callee σ (.call _ _)) hr
    | exact call (q := callee σ (.callv _ _)) hr
theorem deltaG_mono (h : LeC c c') {dsts : Nat → Option Nat} {o : Oper} {σ : St} {r : Dl} (hr : deltaG Γ c dsts o σ = some r) : deltaG Γ c' dsts o σ = some r := by
  unfold deltaG at hr ⊢
  rw [obs] at hr
  obtain ⟨b, h1, hr⟩ := hr
  rw [h1, Option.bind_some]
  cases b with
  | false => exact hr
  | true => exact delta_mono h hr
theorem step_mono (h : LeC c c') {dsts : Nat → Option Nat} {o : Oper} {σ σ' : St} (hr : step Γ c dsts o σ = some σ') : step Γ c' dsts o σ = some σ' := by
  unfold step at hr ⊢
  rw [obs] at hr
  obtain ⟨r, h1, hr⟩ := hr
  rw [deltaG_mono h h1, Option.bind_some]
  exact hr
theorem stepH_mono (h : LeC c c') {dsts : Nat → Option Nat} {o : Oper} {σ σ' : St} (hr : stepH Γ c dsts o σ = some σ') : stepH Γ c' dsts o σ = some σ' := by
  unfold stepH at hr ⊢
  rw [obs] at hr
  obtain ⟨r, h1, hr⟩ := hr
  rw [deltaG_mono h h1, Option.bind_some]
  exact hr
theorem run_mono {f f' : Oper → St → Option St} (h : ∀ o σ σ', f o σ = some σ' → f' o σ = some σ') : ∀ {ops : List Oper} {σ σ' : St}, run f ops σ = some σ' → run f' ops σ = some σ'
  | [], σ, σ', hr => hr
  | o :: ops, σ, σ', hr => by
    simp only [run] at hr ⊢
    rw [obs] at hr
    obtain ⟨σ1, h1, hr⟩ := hr
    rw [h _ _ _ h1, Option.bind_some]
    exact run_mono h hr
theorem region_mono (h : LeC c c') {ops : List Oper} {d : Bool} {σ σ' : St} (hr : region Γ c ops d σ = some σ') : region Γ c' ops d σ = some σ' := by
  unfold region at hr ⊢
  cases d with
  | true => exact run_mono (fun _ _ _ => stepH_mono h) hr
  | false => exact run_mono (fun _ _ _ => step_mono h) hr
abbrev Body := St → Option (Ex × St)
theorem iterN_mono : ∀ {n n' : Nat} {f f' : Body}, n ≤ n' → (∀ σ r, f σ = some r → f' σ = some r) → ∀ {σ : St} {r : Ex × St}, iterN n f σ = some r → iterN n' f' σ = some r
  | 0, n', f, f', _, _, σ, r, hr => by cases hr
  | n + 1, n', f, f', hn, h, σ, r, hr => by
    obtain ⟨m, rfl⟩ : ∃ m, n' = m + 1 := ⟨n' - 1, by omega⟩
    simp only [iterN] at hr ⊢
    rw [obs] at hr
    obtain ⟨q, h1, hr⟩ := hr
    rw [h _ _ h1, Option.bind_some]
    obtain ⟨e, σ1⟩ := q
    cases e with
    | normal => exact iterN_mono (by omega) h hr
    | exit id => exact hr
    | ret => exact hr
theorem iterN_succ (n : Nat) (f : Body) (σ : St) : iterN (n + 1) f σ = (f σ).bind fun r => match r.1 with
    | .normal => iterN n f r.2
    | e => some (e, r.2) := rfl
theorem exec_mono {reg reg' : List Oper → Bool → St → Option St} {n n' : Nat} (hn : n ≤ n') (h : ∀ ops d σ σ', reg ops d σ = some σ' → reg' ops d σ = some σ') :
    ∀ {c : Code} {σ : St} {r : Ex × St}, exec reg (iterN n) c σ = some r → exec reg' (iterN n') c σ = some r := by
  intro c
  induction c with
  | skip => intro σ r hr; exact hr
  | region ops d =>
    intro σ r hr
    simp only [exec, Option.map_eq_some_iff] at hr ⊢
    obtain ⟨σ', h1, h2⟩ := hr
    exact ⟨σ', h _ _ _ _ h1, h2⟩
  | seq a b iha ihb =>
    intro σ r hr
    simp only [exec] at hr ⊢
    rw [obs] at hr
    obtain ⟨⟨e, σ1⟩, h1, hr⟩ := hr
    rw [iha h1, Option.bind_some]
    cases e with
    | normal => exact ihb hr
    | exit id => exact hr
    | ret => exact hr
  | cond x a b iha ihb =>
    intro σ r hr
    simp only [exec] at hr ⊢
    split at hr
    · rename_i t heq
      cases t with
      | true => exact iha hr
      | false => exact ihb hr
    · cases hr
  | block id c ih =>
    intro σ r hr
    simp only [exec, Option.map_eq_some_iff] at hr ⊢
    obtain ⟨q, h1, h2⟩ := hr
    exact ⟨q, ih h1, h2⟩
  | loop c ih =>
    intro σ r hr
    simp only [exec] at hr ⊢
    exact iterN_mono hn (fun σ r => ih) hr
  | exit id => intro σ r hr; exact hr
  | ret => intro σ r hr; exact hr
theorem callN_mono : ∀ {n n' : Nat}, n ≤ n' → LeC (callN Γ n) (callN Γ n')
  | 0, n', _ => fun f as r h => by cases h
  | n + 1, n', hn => by
    obtain ⟨m, rfl⟩ : ∃ m, n' = m + 1 := ⟨n' - 1, by omega⟩
    intro f as r h
    simp only [callN] at h ⊢
    rw [obs] at h
    obtain ⟨fn, h1, h⟩ := h
    rw [h1, Option.bind_some]
    cases hg : fn.given with
    | some o => rw [hg] at h; exact h
    | none =>
      rw [hg] at h
      simp only at h ⊢
      split at h
      · rename_i hm
        rw [if_pos hm]
        rw [obs] at h
        obtain ⟨q, h2, h⟩ := h
        rw [exec_mono (show n ≤ m by omega) (fun ops d σ σ' => region_mono (callN_mono (show n ≤ m by omega))) h2, Option.bind_some]
        exact h
      · cases h
end
def Gives (Γ : Nat → Option Fn) (f : Nat) (as : List Arg) (r : Res) : Prop := ∃ n, callN Γ n f as = some r
def W (Γ : Nat → Option Fn) (c : Code) (Q : Ex → St → Prop) (σ : St) : Prop := ∃ n e σ', exec (region Γ (callN Γ n)) (iterN n) c σ = some (e, σ') ∧ Q e σ'
def WR (Γ : Nat → Option Fn) (dsts : Nat → Option Nat) (ops : List Oper) (Q : St → Prop) (σ : St) : Prop := ∃ n σ', run (step Γ (callN Γ n) dsts) ops σ = some σ' ∧ Q σ'
def WH (Γ : Nat → Option Fn) (dsts : Nat → Option Nat) (ops : List Oper) (Q : St → Prop) (σ : St) : Prop := ∃ n σ', run (stepH Γ (callN Γ n) dsts) ops σ = some σ' ∧ Q σ'
def andThen (K : St → Prop) (Q : Ex → St → Prop) : Ex → St → Prop
  | .normal, σ => K σ
  | e, σ => Q e σ
def inB (id : Nat) (Q : Ex → St → Prop) : Ex → St → Prop
  | .exit id', σ => if id' = id then Q .normal σ else Q (.exit id') σ
  | e, σ => Q e σ
section
variable {Γ : Nat → Option Fn} {Q : Ex → St → Prop} {σ : St}
theorem W.mono {c : Code} {Q' : Ex → St → Prop} (h : W Γ c Q σ) (hq : ∀ e σ, Q e σ → Q' e σ) : W Γ c Q' σ := by
  obtain ⟨n, e, σ', h1, h2⟩ := h; exact ⟨n, e, σ', h1, hq _ _ h2⟩
theorem W.skip (h : Q .normal σ) : W Γ .skip Q σ := ⟨0, _, _, rfl, h⟩
theorem W.ret (h : Q .ret σ) : W Γ .ret Q σ := ⟨0, _, _, rfl, h⟩
theorem W.exit {id : Nat} (h : Q (.exit id) σ) : W Γ (.exit id) Q σ := ⟨0, _, _, rfl, h⟩
theorem W.seq {a b : Code} (h : W Γ a (andThen (W Γ b Q) Q) σ) : W Γ (.seq a b) Q σ := by
  obtain ⟨n, e, σ1, h1, h2⟩ := h
  cases e with
  | normal =>
    obtain ⟨m, e2, σ2, h3, h4⟩ := h2
    refine ⟨max n m, e2, σ2, ?_, h4⟩
    simp only [DM.exec]
    rw [exec_mono (Nat.le_max_left n m) (fun _ _ _ _ => region_mono (callN_mono (Nat.le_max_left n m))) h1, Option.bind_some]
    exact exec_mono (Nat.le_max_right n m) (fun _ _ _ _ => region_mono (callN_mono (Nat.le_max_right n m))) h3
  | exit id => exact ⟨n, _, σ1, by simp only [DM.exec, h1, Option.bind_some], h2⟩
  | ret => exact ⟨n, _, σ1, by simp only [DM.exec, h1, Option.bind_some], h2⟩
theorem W.cond {x : Opd} {a b : Code} {t : Bool} (hc : ev σ.env x = sv (.bool t)) (h : W Γ (if t then a else b) Q σ) : W Γ (.cond x a b) Q σ := by
  obtain ⟨n, e, σ', h1, h2⟩ := h
  refine ⟨n, e, σ', ?_, h2⟩
  simp only [DM.exec, hc, sv]
  cases t <;> exact h1
theorem W.block {id : Nat} {c : Code} (h : W Γ c (inB id Q) σ) : W Γ (.block id c) Q σ := by
  obtain ⟨n, e, σ', h1, h2⟩ := h
  cases e with
  | normal => exact ⟨n, _, σ', by simp only [DM.exec, h1, Option.map_some], h2⟩
  | ret => exact ⟨n, _, σ', by simp only [DM.exec, h1, Option.map_some], h2⟩
  | exit id' =>
    simp only [inB] at h2
    by_cases e : id' = id
    · rw [if_pos e] at h2
      exact ⟨n, .normal, σ', by simp only [DM.exec, h1, Option.map_some, e, if_true], h2⟩
    · rw [if_neg e] at h2
      exact ⟨n, _, σ', by simp only [DM.exec, h1, Option.map_some, e, if_false], h2⟩
theorem W.loop {c : Code} (h : W Γ c (andThen (W Γ (.loop c) Q) Q) σ) : W Γ (.loop c) Q σ := by
  obtain ⟨n, e, σ1, h1, h2⟩ := h
  cases e with
  | normal =>
    obtain ⟨m, e2, σ2, h3, h4⟩ := h2
    refine ⟨max n m + 1, e2, σ2, ?_, h4⟩
    simp only [DM.exec] at h3 ⊢
    rw [iterN_succ]
    have k1 : n ≤ max n m + 1 := by omega
    have k2 : m ≤ max n m + 1 := by omega
    rw [exec_mono k1 (fun _ _ _ _ => region_mono (callN_mono k1)) h1, Option.bind_some]
    exact iterN_mono (show m ≤ max n m by omega) (fun σ r h => exec_mono k2 (fun _ _ _ _ => region_mono (callN_mono k2)) h) h3
  | exit id =>
    refine ⟨n + 1, _, σ1, ?_, h2⟩
    simp only [DM.exec]
    rw [iterN_succ, exec_mono (show n ≤ n + 1 by omega) (fun _ _ _ _ => region_mono (callN_mono (show n ≤ n + 1 by omega))) h1]; rfl
  | ret =>
    refine ⟨n + 1, _, σ1, ?_, h2⟩
    simp only [DM.exec]
    rw [iterN_succ, exec_mono (show n ≤ n + 1 by omega) (fun _ _ _ _ => region_mono (callN_mono (show n ≤ n + 1 by omega))) h1]; rfl
theorem W.region {ops : List Oper} (h : WR Γ (dstsOf ops) ops (Q .normal) σ) : W Γ (.region ops false) Q σ := by
  obtain ⟨n, σ', h1, h2⟩ := h
  exact ⟨n, _, σ', by simp only [DM.exec, DM.region, Bool.false_eq_true, if_false, h1, Option.map_some], h2⟩
theorem W.draw {ops : List Oper} (h : WH Γ (dstsOf ops) ops (Q .normal) σ) : W Γ (.region ops true) Q σ := by
  obtain ⟨n, σ', h1, h2⟩ := h
  exact ⟨n, _, σ', by simp only [DM.exec, DM.region, if_true, h1, Option.map_some], h2⟩
variable {dsts : Nat → Option Nat} {K : St → Prop}
theorem WR.nil (h : K σ) : WR Γ dsts [] K σ := ⟨0, σ, rfl, h⟩
theorem WR.cons {o : Oper} {ops : List Oper} {σ' : St} (h : ∃ n, step Γ (callN Γ n) dsts o σ = some σ') (k : WR Γ dsts ops K σ') : WR Γ dsts (o :: ops) K σ := by
  obtain ⟨n, h1⟩ := h
  obtain ⟨m, σ2, h2, h3⟩ := k
  refine ⟨max n m, σ2, ?_, h3⟩
  simp only [run]
  rw [step_mono (callN_mono (Nat.le_max_left n m)) h1, Option.bind_some]
  exact run_mono (fun _ _ _ => step_mono (callN_mono (Nat.le_max_right n m))) h2
theorem WH.nil (h : K σ) : WH Γ dsts [] K σ := ⟨0, σ, rfl, h⟩
theorem WH.cons {o : Oper} {ops : List Oper} {σ' : St} (h : ∃ n, stepH Γ (callN Γ n) dsts o σ = some σ') (k : WH Γ dsts ops K σ') : WH Γ dsts (o :: ops) K σ := by
  obtain ⟨n, h1⟩ := h
  obtain ⟨m, σ2, h2, h3⟩ := k
  refine ⟨max n m, σ2, ?_, h3⟩
  simp only [run]
  rw [stepH_mono (callN_mono (Nat.le_max_left n m)) h1, Option.bind_some]
  exact run_mono (fun _ _ _ => stepH_mono (callN_mono (Nat.le_max_right n m))) h2
theorem Gives.of_W {f : Nat} {fn : Fn} {as : List Arg} {r : Res} (hf : Γ f = some fn) (hm : (fn.given.isNone && marked fn.muts as) = true)
    (h : W Γ fn.body (fun e σ => (∀ id, e ≠ .exit id) ∧ finish fn as σ = some r) (enter as)) : Gives Γ f as r := by
  obtain ⟨n, e, σ, h1, h2, h3⟩ := h
  refine ⟨n + 1, ?_⟩
  rw [Bool.and_eq_true, Option.isNone_iff_eq_none] at hm
  obtain ⟨hg, hm⟩ := hm
  simp only [callN, hf, Option.bind_some, hg, hm, if_true, h1]
  cases e with
  | exit id => exact (h2 id rfl).elim
  | normal => exact h3
  | ret => exact h3
theorem Gives.given {f : Nat} {fn : Fn} {o : List Arg → Option Res} {as : List Arg} {r : Res} (hf : Γ f = some fn) (hg : fn.given = some o) (h : o as = some r) : Gives Γ f as r :=
  ⟨1, by simp only [callN, hf, Option.bind_some, hg, h]⟩
end
end Go.DM

/- From a statement's first call to the small machine: arguments read as plain data; what is left behind. -/
namespace Go.DM
variable [Tok]
open Go.ChangeShapes Go.WideShapes Go.ChangeAt Go.RowKit
def wfS : SK → S → Prop
  | .bool, .bool _ => True
  | .int k, .int k' n => k' = k ∧ (Lit.int k n).wf = true
  | .str, .str s => s.length ≤ maxLen
  | _, _ => False
def ksF (P : Program) (g : TypeId → Option (List SK)) : List Field → List SK → Option (List SK)
  | [], acc => some acc
  | f :: fs, acc => (g f.type).bind fun ks => if f.offset = acc.length ∧ P.cellsOf f.type = ks.length then ksF P g fs (acc ++ ks) else none
def ksOf (P : Program) : Nat → TypeId → Option (List SK)
  | 0, _ => none
  | d + 1, t => match P.underlying t with
    | some .bool => some [.bool]
    | some (.int k) => some [.int k]
    | some .string => some [.str]
    | some (.struct fs) => (ksF P (ksOf P d) fs.toList []).bind fun ks => if P.cellsOf t = ks.length then some ks else none
    | some (.array n e) => (ksOf P d e).bind fun ks => if P.cellsOf e = ks.length ∧ P.cellsOf t = n * ks.length then some (List.replicate n ks).flatten else none
    | _ => none
section
variable {H : Type} {enc : TypeId × Value → H} {P : Program} {w : World} {base : Nat} {sp : Nat → Bool} {held : Bool}
theorem encs_append' (a b : List S) : encs (a ++ b) = encs a ++ encs b := by simp [encs]
theorem ksF_open {g : TypeId → Option (List SK)} {cs : List Value}
    (hg : ∀ t ks, g t = some ks → ∀ fuel cs x, DataW.trod enc P w base sp held fuel t cs = some x → ∃ ss, cs = encs ss ∧ All2 wfS ks ss) :
    ∀ {fs : List Field} {acc ks : List SK}, ksF P g fs acc = some ks → (∀ f ∈ fs, ∃ n x, DataW.trod enc P w base sp held n f.type ((cs.drop f.offset).take (P.cellsOf f.type)) = some x) →
      (∃ ss, cs.take acc.length = encs ss ∧ All2 wfS acc ss) → ∃ ss, cs.take ks.length = encs ss ∧ All2 wfS ks ss
  | [], acc, ks, h, _, h0 => by cases h; exact h0
  | f :: fs, acc, ks, h, hf, ⟨ss0, h1, h2⟩ => by
    simp only [ksF] at h
    rw [obs] at h
    obtain ⟨k1, hk1, h⟩ := h
    split at h
    · rename_i hc
      obtain ⟨n, x, hx⟩ := hf f (List.mem_cons_self ..)
      obtain ⟨ss1, e1, e2⟩ := hg _ _ hk1 _ _ _ hx
      refine ksF_open hg h (fun f' hf' => hf f' (List.mem_cons_of_mem _ hf')) ⟨ss0 ++ ss1, ?_, h2.append e2⟩
      rw [List.length_append, List.take_add, h1, encs_append', ← hc.2, ← hc.1, e1]
    · cases h
theorem ksOf_open : ∀ (d : Nat) (t : TypeId) (ks : List SK), ksOf P d t = some ks → ∀ (fuel : Nat) (cs : List Value) (x : DataW H × List MemPlace), DataW.trod enc P w base sp held fuel t cs = some x → ∃ ss, cs = encs ss ∧ All2 wfS ks ss
  | 0, t, ks, h, _, _, _, _ => by cases h
  | d + 1, t, ks, h, fuel, cs, x, hx => by
    have one : ∀ {k : SK} {s : S}, wfS k s → All2 wfS [k] [s] := fun h => .cons h .nil
    unfold ksOf at h
    split at h
    · rename_i ht
      cases h
      cases fuel with
      | zero => simp [DataW.trod] at hx
      | succ n =>
        cases cs with
        | nil => simp [DataW.trod, ht] at hx
        | cons v cs =>
          cases cs with
          | cons _ _ => cases v <;> simp [DataW.trod, ht] at hx
          | nil =>
            cases v <;> simp only [DataW.trod, ht] at hx <;> first | (cases hx; done) | skip
            rename_i b
            exact ⟨[.bool b], rfl, one trivial⟩
    · rename_i k ht
      cases h
      cases fuel with
      | zero => simp [DataW.trod] at hx
      | succ n =>
        cases cs with
        | nil => simp [DataW.trod, ht] at hx
        | cons v cs =>
          cases cs with
          | cons _ _ => cases v <;> simp [DataW.trod, ht] at hx
          | nil =>
            cases v <;> simp only [DataW.trod, ht] at hx <;> first | (cases hx; done) | skip
            rename_i k' m
            split at hx
            · rename_i hc
              exact ⟨[.int k' m], rfl, one ⟨hc.1, hc.2⟩⟩
            · cases hx
    · rename_i ht
      cases h
      cases fuel with
      | zero => simp [DataW.trod] at hx
      | succ n =>
        cases cs with
        | nil => simp [DataW.trod, ht] at hx
        | cons v cs =>
          cases cs with
          | cons _ _ => cases v <;> simp [DataW.trod, ht] at hx
          | nil =>
            cases v <;> simp only [DataW.trod, ht] at hx <;> first | (cases hx; done) | skip
            rename_i s
            split at hx
            · rename_i hc
              refine ⟨[.str s.data.toList], ?_, one ?_⟩
              · simp [encs, DM.enc]
              · show s.data.toList.length ≤ maxLen
                rw [Array.length_toList]; exact hc
            · cases hx
    · rename_i fs ht
      rw [obs] at h
      obtain ⟨k1, hk1, h⟩ := h
      split at h
      · rename_i hc
        cases h
        obtain ⟨xs, n, _, _, hl, hlen, hg⟩ := DataW.trod_struct ht hx
        obtain ⟨ss, e1, e2⟩ := ksF_open (cs := cs) (ksOf_open d) hk1 (fun f hf => by
          obtain ⟨i, hi, rfl⟩ := List.mem_iff_getElem.1 hf
          have hi' : i < fs.size := by simpa using hi
          have h0 := hg i fs[i] (by simp [hi'])
          obtain ⟨y, hy⟩ : ∃ y, xs[i]? = some y := ⟨xs[i]'(by omega), by simp⟩
          rw [hy] at h0
          exact ⟨n, y, by simpa using h0⟩) ⟨[], by simp [encs], .nil⟩
        rw [← hc, ← hl, List.take_length] at e1
        exact ⟨ss, e1, e2⟩
      · cases h
    · rename_i m e ht
      rw [obs] at h
      obtain ⟨k1, hk1, h⟩ := h
      split at h
      · rename_i hc
        cases h
        obtain ⟨xs, n, _, _, hl, hlen, hg⟩ := DataW.trod_array ht hx
        have key : ∀ i, i ≤ m → ∃ ss, cs.take (i * k1.length) = encs ss ∧ All2 wfS (List.replicate i k1).flatten ss := by
          intro i
          induction i with
          | zero => intro _; exact ⟨[], by simp [encs], .nil⟩
          | succ i ih =>
            intro hi
            obtain ⟨ss, e1, e2⟩ := ih (by omega)
            have h0 := hg i (by omega)
            obtain ⟨y, hy⟩ : ∃ y, xs[i]? = some y := ⟨xs[i]'(by omega), by simp⟩
            rw [hy] at h0
            obtain ⟨s1, e3, e4⟩ := ksOf_open d _ _ hk1 _ _ _ h0
            refine ⟨ss ++ s1, ?_, ?_⟩
            · rw [Nat.succ_mul, List.take_add, e1, encs_append', ← e3, hc.1]
            · rw [List.replicate_succ', List.flatten_append]
              simpa using e2.append e4
        obtain ⟨ss, e1, e2⟩ := key m (Nat.le_refl _)
        rw [← hc.2, ← hl, List.take_length] at e1
        exact ⟨ss, e1, e2⟩
      · cases h
    · cases h
theorem contract_of {ρ : Nat → Nat} {κ : Kn} {Γ : Nat → Option Fn} {F f : Nat} {ds : List D} {vs : List Value} (hm : P.follows .mixedOrders = true) (hT : Table P ρ κ Γ) (hF : ρ f = F) (W : World) (hk1 : κ.Ks W) (hk2 : κ.n0 ≤ W.heap.size)
    (hrel : All2 (DRel ρ (fun b => b < W.heap.size) W) ds vs) (hg : Gives Γ f (ds.map .d) ⟨[.s (.bool true)], []⟩) :
    Go.Calls P F vs.toArray W fun e W' => e = .returned (.bool true) ∧ Below W.heap.size W W' := by
  subst hF
  obtain ⟨n, hn⟩ := hg
  have ha : ArgsRel ρ W (ds.map .d) vs (List.replicate vs.length none) := by
    have hs : some? (List.replicate vs.length (none : Option Reg)) = [] := by
      simp [some?, List.filterMap_replicate]
    refine ⟨by simp [hrel.1], by simp [hrel.1], fun i x v r hx hv hr => ?_, ⟨fun m hm => ?_, fun m hm => ?_⟩, fun i j m m' hi => ?_⟩
    · simp only [List.getElem?_map, Option.map_eq_some_iff] at hx
      obtain ⟨y, hy, rfl⟩ := hx
      have : r = none := by
        rw [List.getElem?_replicate] at hr
        split at hr
        · cases hr; rfl
        · cases hr
      subst this
      have := hrel.2 i y v hy hv
      exact DRel.mono (fun b hb => ⟨⟨hb, fun m hm => by rw [hs] at hm; cases hm⟩, rfl⟩) this
    · rw [hs] at hm; cases hm
    · rw [hs] at hm; cases hm
    · rw [List.getElem?_replicate] at hi
      split at hi
      · cases hi
      · cases hi
  refine Go.Calls.mono (callN_sound hm hT n f _ _ hn W vs _ ha hk1 hk2 (fun m hm => by rw [show some? (List.replicate vs.length (none : Option Reg)) = [] by simp [some?, List.filterMap_replicate]] at hm; cases hm)) fun e W' he => ?_
  obtain ⟨v, rfl, hleft, ⟨us, bs, hv, h1, h2, h3, _⟩, _⟩ := he
  have hs : some? (List.replicate vs.length (none : Option Reg)) = [] := by
    simp [some?, List.filterMap_replicate]
  rw [hs] at hleft
  obtain ⟨u, rfl⟩ : ∃ u, us = [u] := by
    cases us with
    | nil => simp at h1
    | cons u us =>
      cases us with
      | nil => exact ⟨u, rfl⟩
      | cons _ _ => simp at h1
  obtain ⟨b, rfl⟩ : ∃ b, bs = [b] := by
    cases bs with
    | nil => simp at h2
    | cons u us =>
      cases us with
      | nil => exact ⟨u, rfl⟩
      | cons _ _ => simp at h2
  have h4 := h3 0 _ u b rfl rfl rfl
  have : u = .bool true := by
    cases b with
    | none => exact h4
    | some b => exact h4.elim
  subst this
  subst hv
  exact ⟨rfl, hleft.os, hleft.tape, hleft.output, hleft.size, fun k hk => hleft.same k hk fun m hm => by cases hm⟩
end
end Go.DM

/- Functions of Go's library whose answers are given: what they give. -/
namespace Go.DM
variable [Tok]
def indexByteO : List Arg → Option Res
  | [.d (.s (.str s)), .d (.s (.int .u8 c))] => some ⟨[.s (.int .i64 (Lib.indexByte s c.toNat.toUInt8))], []⟩
  | _ => none
def repeatO : List Arg → Option Res
  | [.d (.s (.str s)), .d (.s (.int .i64 n))] => if 0 ≤ n ∧ n ≤ 1000000 ∧ s.length ≤ 1000000 then some ⟨[.s (.str (Lib.repeatL s n.toNat))], []⟩ else none
  | _ => none
def strsOf : List S → Option (List (List UInt8))
  | [] => some []
  | .str s :: r => (strsOf r).map (s :: ·)
  | _ => none
def joinO : List Arg → Option Res
  | [.d (.sl n 1 cs), .d (.s (.str sep))] => (strsOf cs).bind fun xs => if xs.length = n ∧ n ≤ 1000000 ∧ (Lib.join xs sep).length ≤ 1000000 then some ⟨[.s (.str (Lib.join xs sep))], []⟩ else none
  | _ => none
def formatO : List Arg → Option Res
  | [.d (.s (.int .i64 n)), .d (.s (.int .i64 10))] => if 0 ≤ n ∧ n < 100 then some ⟨[.s (.str (Lib.decDigits n.toNat))], []⟩ else if -100 ≤ n ∧ n < 0 then some ⟨[.s (.str (Lib.itoa n))], []⟩ else none
  | _ => none
def pieces (c : UInt8) : List UInt8 → List (List UInt8)
  | [] => [[]]
  | b :: r => if b = c then [] :: pieces c r else match pieces c r with | [] => [[b]] | p :: ps => (b :: p) :: ps
def splitO : List Arg → Option Res
  | [.d (.s (.str s)), .d (.s (.str [c]))] => if s.length ≤ 2000000 then some ⟨[.own (pieces c s).length 1 ((pieces c s).map S.str)], []⟩ else none
  | _ => none
def trimSuffixO : List Arg → Option Res
  | [.d (.s (.str s)), .d (.s (.str p))] => if s.length ≤ 2000000 then some ⟨[.s (.str (Lib.trimSuffix s p))], []⟩ else none
  | _ => none
def trimO : List Arg → Option Res
  | [.d (.s (.str s)), .d (.s (.str c))] => if s.length ≤ 2000000 ∧ c.length ≤ 100 ∧ c.all (fun b => decide (b.toNat < 128)) = true then some ⟨[.s (.str (Lib.trimS s c))], []⟩ else none
  | _ => none
def replaceO : List Arg → Option Res
  | [.d (.s (.str s)), .d (.s (.str [c])), .d (.s (.str []))] => if s.length ≤ 2000000 then some ⟨[.s (.str (Lib.replaceAll s [c] []))], []⟩ else none
  | _ => none
def numL (l : List UInt8) : Int := match Lib.parseIntB 64 l with | .ok v => v | _ => -1000
def numberO : List Arg → Option Res
  | [.d (.s (.str s))] => if s.length ≤ 2000000 then some ⟨[.s (.int .i64 (numL s))], []⟩ else none
  | _ => none
def spP (n : Nat) : Bool := n == 32 || n == 10
def fieldsL (s : List UInt8) : List (List UInt8) := (Lib.goFieldsP spP ⟨s.toArray⟩).map (·.data.toList)
def fieldsO (k : Nat) : List Arg → Option Res
  | [.d (.s (.str s)), .d (.clo f [] [])] => if f = k ∧ s.length ≤ 2000000 then some ⟨[.own (fieldsL s).length 1 ((fieldsL s).map S.str)], []⟩ else none
  | _ => none
end Go.DM
