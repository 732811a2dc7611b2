/- Code; a call. -/
import Derived.Test.YtaocbbdkiemhaaaK139SimN
import Derived.LoopN
set_option linter.unusedSimpArgs false
set_option linter.unusedVariables false
namespace Go.DM
set_option linter.unusedSectionVars false
variable [Tok]
section
variable {P : Program} {X : Cx} {φ φ0 : Nat → Option Loc} {w0 w w' : World} {σ σ' : St} {a : Act} {n : Nat} {M : List Reg}

def okC (P : Program) (ρ : Nat → Nat) (n : Nat) : Go.Code → Code → Bool
  | .skip, .skip | .ret, .ret => true
  | .region _ gs false, .region ms false => okOpers P ρ n gs.toList ms
  | .region _ gs true, .region ms true => okOpers P ρ n gs.toList ms && okDraw gs.toList ms
  | .seq a b, .seq a' b' => okC P ρ n a a' && okC P ρ n b b'
  | .cond c a b, .cond c' a' b' => okX ρ c c' && okC P ρ n a a' && okC P ρ n b b'
  | .block id a, .block id' a' => id == id' && okC P ρ n a a'
  | .loop a, .loop a' => okC P ρ n a a'
  | .exit id, .exit id' => id == id'
  | _, _ => false

def exOf : Ex → Exit
  | .normal => .normal | .exit id => .exit id | .ret => .ret

theorem exec_wp {Γ : Nat → Option Fn} {call : Calls} (hm : P.follows .mixedOrders = true) (hB : Bodies P X.ρ Γ) (hS : Sound P X.ρ X.κ call) (hM : Apart M w0) (k : Nat) :
    ∀ {gc : Go.Code} {c : Code} {σ σ' : St} {e : Ex} {a : Act} {w : World} {Q : Exit → Act → World → Prop}, okC P X.ρ n gc c = true → Holds X M φ0 w0 n σ a w → exec (region Γ call) (iterN k) c σ = some (e, σ') →
      (∀ a' w', Holds X M φ0 w0 n σ' a' w' → Q (exOf e) a' w') → gc.wp P Q a w := by
  intro gc c
  induction c generalizing gc with
  | skip =>
    intro σ σ' e a w Q hok h hx hQ
    unfold okC at hok
    split at hok <;> first | (cases hok; done) | skip
    all_goals (rename_i heq; cases heq)
    cases hx
    exact wp_skip (hQ _ _ h)
  | ret =>
    intro σ σ' e a w Q hok h hx hQ
    unfold okC at hok
    split at hok <;> first | (cases hok; done) | skip
    all_goals (rename_i heq; cases heq)
    cases hx
    exact wp_ret (hQ _ _ h)
  | exit id =>
    intro σ σ' e a w Q hok h hx hQ
    unfold okC at hok
    split at hok <;> first | (cases hok; done) | skip
    all_goals (rename_i heq; cases heq)
    cases hx
    rw [eq_of_beq hok]
    exact wp_exit (hQ _ _ h)
  | region ms draw =>
    intro σ σ' e a w Q hok h hx hQ
    simp only [exec, Option.map_eq_some_iff] at hx
    obtain ⟨σ1, hr, hx⟩ := hx
    cases hx
    unfold okC at hok
    split at hok <;> first | (cases hok; done) | skip
    all_goals (rename_i heq; cases heq)
    · exact region_wp hB hS hM hQ hok h hr
    · rw [Bool.and_eq_true] at hok
      exact region_draw_wp hm hB hS hM hQ hok.1 hok.2 h hr
  | seq x y ihx ihy =>
    intro σ σ' e a w Q hok h hx hQ
    unfold okC at hok
    split at hok <;> first | (cases hok; done) | skip
    all_goals (rename_i heq; cases heq)
    rw [Bool.and_eq_true] at hok
    simp only [exec] at hx
    rw [Option.bind_eq_some_iff] at hx
    obtain ⟨⟨e1, σ1⟩, h1, hx⟩ := hx
    refine wp_seq (ihx hok.1 h h1 fun a' w' h' => ?_)
    cases e1 with
    | normal => exact ihy hok.2 h' hx hQ
    | exit id => cases hx; exact hQ _ _ h'
    | ret => cases hx; exact hQ _ _ h'
  | cond c x y ihx ihy =>
    intro σ σ' e a w Q hok h hx hQ
    unfold okC at hok
    split at hok <;> first | (cases hok; done) | skip
    all_goals (rename_i heq; cases heq)
    simp only [Bool.and_eq_true] at hok
    obtain ⟨⟨h1, h2⟩, h3⟩ := hok
    simp only [exec] at hx
    split at hx
    · rename_i t heq
      obtain ⟨φ, hh⟩ := h
      have hc := okX_sim hh.rel.base h1
      rw [heq] at hc
      have hc' := sv_rel hc
      refine wp_cond (t := t) hc' ?_
      cases t
      · exact ihy h3 ⟨φ, hh⟩ hx hQ
      · exact ihx h2 ⟨φ, hh⟩ hx hQ
    · cases hx
  | block id c ih =>
    intro σ σ' e a w Q hok h hx hQ
    unfold okC at hok
    split at hok <;> first | (cases hok; done) | skip
    all_goals (rename_i heq; cases heq)
    rw [Bool.and_eq_true] at hok
    have e1 := eq_of_beq hok.1
    subst e1
    simp only [exec, Option.map_eq_some_iff] at hx
    obtain ⟨⟨e1, σ1⟩, h1, hx⟩ := hx
    refine wp_block (ih hok.2 h h1 fun a' w' h' => ?_)
    cases e1 with
    | normal => cases hx; exact hQ _ _ h'
    | ret => cases hx; exact hQ _ _ h'
    | exit id' =>
      simp only [exOf, Exit.inBlock]
      simp only at hx
      split at hx
      · rename_i heq
        rw [if_pos heq]
        cases hx; exact hQ _ _ h'
      · rename_i heq
        rw [if_neg heq]
        cases hx; exact hQ _ _ h'
  | loop c ih =>
    intro σ σ' e a w Q hok h hx hQ
    unfold okC at hok
    split at hok <;> first | (cases hok; done) | skip
    all_goals (rename_i heq; cases heq)
    rename_i gc
    simp only [exec] at hx
    refine wp_loop_rounds k ?_
    have key : ∀ (m : Nat) {σ : St} {a : Act} {w : World}, Holds X M φ0 w0 n σ a w → iterN m (exec (region Γ call) (iterN k) c) σ = some (e, σ') → Code.rounds P gc Q m a w := by
      intro m
      induction m with
      | zero => intro σ a w _ hx; cases hx
      | succ m ihm =>
        intro σ a w h hx
        simp only [iterN] at hx
        rw [Option.bind_eq_some_iff] at hx
        obtain ⟨⟨e1, σ1⟩, h1, hx⟩ := hx
        rw [rounds_succ]
        refine ih hok h h1 fun a' w' h' => ?_
        cases e1 with
        | normal => exact ihm h' hx
        | exit id => cases hx; exact hQ _ _ h'
        | ret => cases hx; exact hQ _ _ h'
    exact key k h hx

def okRs (P : Program) : List ResultVar → List Rs → Bool
  | [], [] => true
  | .tmp t :: gs, .tmp t' :: rs => t == t' && okRs P gs rs
  | .cell t T :: gs, .cell t' n agg :: rs => t == t' && sizeIs P T n && rowIs P T agg && okRs P gs rs
  | _, _ => false

def okFn (P : Program) (ρ : Nat → Nat) (g : Func) (fn : Fn) : Bool :=
  (match g.body with | some c => fn.given.isSome || okC P ρ g.ntmps c fn.body | none => false) && (fn.given.isSome || okRs P g.results.toList fn.res) && g.name != "runtime.NumGoroutine"

/-- What the results hold. -/
theorem results_run {fn : Func} {res : List Rs} {vs : List V} (b : Base X φ σ a w) (hok : okRs P fn.results.toList res = true) (h : all? (resV σ) res = some vs) :
    ∃ us : List Value, (results fn a.tmps).run P w = .ok (packed us) w ∧ All2 (VRel X φ w) vs us := by
  have one : ∀ {gs : List ResultVar} {rs : List Rs} {vs : List V}, okRs P gs rs = true → all? (resV σ) rs = some vs →
      ∃ us : List Value, (gs.mapM fun | .tmp t => pure (a.tmps.getD t Go.undef) | .cell t T => do loadVar T (← asAddr (a.tmps.getD t Go.undef)) : Sem (List Value)).run P w = .ok us w ∧ All2 (VRel X φ w) vs us := by
    intro gs
    induction gs with
    | nil =>
      intro rs vs hok h
      cases rs with
      | nil => cases h; exact ⟨[], by simp, .nil⟩
      | cons r rs => simp [okRs] at hok
    | cons g gs ih =>
      intro rs vs hok h
      cases rs with
      | nil => cases g <;> simp [okRs] at hok
      | cons r rs =>
        simp only [all?] at h
        rw [Option.bind_eq_some_iff] at h
        obtain ⟨v, hv, h⟩ := h
        rw [Option.map_eq_some_iff] at h
        obtain ⟨vs', h, rfl⟩ := h
        cases g with
        | tmp t =>
          cases r with
          | cell _ _ _ => simp [okRs] at hok
          | tmp t' =>
            simp only [okRs, Bool.and_eq_true] at hok
            have e := eq_of_beq hok.1
            subst e
            obtain ⟨us, h1, h2⟩ := ih hok.2 h
            simp only [resV, Option.some.injEq] at hv
            subst hv
            refine ⟨a.tmps.getD t Go.undef :: us, ?_, .cons (b.env t) h2⟩
            simp only [List.mapM_cons, Sem.run_bind, Sem.run_pure, Result.andThen_ok, h1]
        | cell t T =>
          cases r with
          | tmp _ => simp [okRs] at hok
          | cell t' n agg =>
            simp only [okRs, Bool.and_eq_true] at hok
            obtain ⟨⟨⟨e1, e2⟩, e3⟩, e4⟩ := hok
            have e := eq_of_beq e1
            subst e
            obtain ⟨us, h1, h2⟩ := ih e4 h
            simp only [resV] at hv
            obtain ⟨u, g1, g2⟩ := load_sim (P := P) b e3 e2 (b.env t) hv
            have g1' : (do loadVar T (← asAddr (a.tmps.getD t Go.undef)) : Sem Value).run P w = .ok u w := by
              revert g1
              generalize a.tmps.getD t Go.undef = q
              intro g1
              unfold Instr.loadAt at g1
              cases q <;> first | (simp [Instr.sureAddr] at g1; done) | skip
              rename_i p
              cases p with
              | none => simp [Instr.sureAddr] at g1
              | some p => simpa [Instr.sureAddr, asAddr] using g1
            refine ⟨u :: us, ?_, .cons g2 h2⟩
            simp only [List.mapM_cons, Sem.run_bind, Sem.run_pure, Result.andThen_ok, h1] at g1' ⊢
            rw [g1']
            simp only [Result.andThen_ok, h1]
  obtain ⟨us, h1, h2⟩ := one hok h
  refine ⟨us, ?_, h2⟩
  unfold results
  rw [Array.mapM_eq_mapM_toList]
  simp only [map_eq_pure_bind, Sem.run_bind, Sem.run_pure]
  generalize hq : Sem.run P (List.mapM _ fn.results.toList) w = q
  have hq' : q = .ok us w := by rw [← hq]; exact h1
  rw [hq']
  simp only [Result.andThen_ok]
  congr 1
  cases us with
  | nil => rfl
  | cons u us =>
    cases us with
    | nil => rfl
    | cons u' us => simp [packed]
end
end Go.DM
