/- Valid lawns: both sides. -/
import Derived.Test.YtaocbbdkiemhaaaK139Lawn
set_option linter.unusedSimpArgs false
set_option linter.unusedVariables false
namespace Go.DM
set_option linter.unusedSectionVars false
variable [Tok]
open Go.IntWalk
variable {w h : Int} {g : Nat → Int} {cs : List S}

theorem validLawn_gives (l : IsLawn w h g cs) : Gives G 30 [aa cs] (rb (decide (LawnOk w h g))) := by
  refine Gives.by rfl rfl (W.seq ?_)
  repeat' first | ((with_reducible apply WR.cp); exact rfl; exact rfl; exact rfl; exact rfl; exact within_gives _ _ _; exact rfl) | ((with_reducible apply WR.mv); exact rfl; exact rfl) | ((with_reducible apply WR.off); exact rfl) | ((with_reducible apply WR.ld); exact rfl; exact rfl; exact rfl; (first | exact lawn_w (by assumption) | exact lawn_h (by assumption))) | ((with_reducible apply WR.un); exact rfl; exact rfl) | ((with_reducible apply WR.pk); exact rfl; exact rfl) | ((with_reducible apply WR.fa); exact rfl; exact rfl) | ((with_reducible apply WR.nil)) | (with_reducible refine andThen_n ?_) | (with_reducible refine andThen_r ?_) | (with_reducible refine W.seq ?_) | (with_reducible refine W.region ?_) | (with_reducible refine W.skip ?_) | (with_reducible refine W.ret ?_) | (with_reducible refine W.block ?_) | ((with_reducible apply W.condT); exact rfl) | ((with_reducible apply W.condF); exact rfl) | ((with_reducible apply Done.r); exact rfl) | (intro hb; try (exfalso; omega)) | ((with_reducible apply WR.cv); exact rfl; exact rfl; (first | exact lawn_ww (by assumption) | exact lawn_hw (by assumption))) | ((with_reducible apply WR.bx); exact rfl; exact rfl; exact IsLawn.len (by assumption); (first | exact rfl))
  all_goals first | exact rb_f (by simp only [LawnOk]; omega) | skip
  refine W.loopI (fun n σ => ∃ y : Int, n = (10 - y).toNat ∧ 0 ≤ y ∧ y ≤ 10 ∧ (∀ k, k < 10 * y.toNat → cellOk w h g k) ∧ σ.env 18 = .a (.d (.s (.int .i8 y))) ∧ σ.env 1 = .a (.ptr 1 0) ∧ σ.objs 1 = some (.flat false cs)) ?_ 10 _ ⟨0, rfl, by omega, by omega, fun k hk => by omega, rfl, rfl, rfl⟩
  rintro n σ ⟨y, rfl, y0, y1, hok, e18, e1, o1⟩
  rw [← set_self e18, ← set_self e1, ← put_self o1]
  repeat' first | ((with_reducible apply WR.mv); exact rfl; exact rfl) | ((with_reducible apply WR.nil)) | (with_reducible refine andThen_n ?_) | (with_reducible refine andThen_x ?_) | (with_reducible refine inB_x ?_) | (with_reducible refine W.seq ?_) | (with_reducible refine W.region ?_) | (with_reducible refine W.skip ?_) | (with_reducible refine W.ret ?_) | (with_reducible refine W.exit ?_) | (with_reducible refine W.block ?_) | ((with_reducible apply W.condT); exact rfl) | ((with_reducible apply W.condF); exact rfl) | ((with_reducible apply Done.r); exact rfl) | (intro hb; try (exfalso; omega)) | ((with_reducible apply WR.lss); exact rfl; exact rfl; exact rfl)
  · refine W.loopI (fun n σ => ∃ x : Int, n = (10 - x).toNat ∧ 0 ≤ x ∧ x ≤ 10 ∧ (∀ k, k < 10 * y.toNat + x.toNat → cellOk w h g k) ∧ σ.env 21 = .a (.d (.s (.int .i8 x))) ∧ σ.env 18 = .a (.d (.s (.int .i8 y))) ∧ σ.env 3 = .a (.d (.s (.int .i8 y))) ∧ σ.env 1 = .a (.ptr 1 0) ∧ σ.objs 1 = some (.flat false cs))
      ?_ 10 _ ⟨0, rfl, by omega, by omega, by simpa using hok, rfl, rfl, rfl, rfl, rfl⟩
    clear hok e18 e1 o1
    rintro n σ ⟨x, rfl, x0, x1, hok, e21, e18, e3, e1, o1⟩
    rw [← set_self e21, ← set_self e18, ← set_self e3, ← set_self e1, ← put_self o1]
    repeat' first | ((with_reducible apply WR.cp); exact rfl; exact rfl; exact rfl; exact rfl; exact has_gives (by assumption) _ _; exact rfl) | ((with_reducible apply WR.mv); exact rfl; exact rfl) | ((with_reducible apply WR.off); exact rfl) | ((with_reducible apply WR.ld); exact rfl; exact rfl; exact rfl; (first | exact lawn_c (by assumption) (by omega) | exact loadC_all (IsLawn.len (by assumption)))) | ((with_reducible apply WR.un); exact rfl; exact rfl) | ((with_reducible apply WR.pk); exact rfl; exact rfl) | ((with_reducible apply WR.fa); exact rfl; exact rfl) | ((with_reducible apply WR.nil)) | (with_reducible refine andThen_n ?_) | (with_reducible refine andThen_x ?_) | (with_reducible refine andThen_r ?_) | (with_reducible refine inB_n ?_) | (with_reducible refine inB_r ?_) | (with_reducible refine inB_x ?_) | (with_reducible refine W.seq ?_) | (with_reducible refine W.region ?_) | (with_reducible refine W.skip ?_) | (with_reducible refine W.ret ?_) | (with_reducible refine W.exit ?_) | (with_reducible refine W.block ?_) | ((with_reducible apply W.condT); exact rfl) | ((with_reducible apply W.condF); exact rfl) | ((with_reducible apply Done.r); exact rfl) | (intro hb; try (exfalso; omega)) | ((with_reducible apply WR.lss); exact rfl; exact rfl; exact rfl) | ((with_reducible apply WR.ad); exact rfl; exact rfl; exact rfl; (first | exact i8_in _ (by omega))) | ((with_reducible apply WR.ia); exact rfl; exact rfl; exact rfl; omega) | ((with_reducible apply WR.gtr); exact rfl; exact rfl; exact rfl) | ((with_reducible apply WR.neq); exact rfl; exact rfl; exact rfl) | ((with_reducible apply WR.bu); exact rfl; exact rfl)
    all_goals first
      | exact rb_f (fun hl => by have := hl.2.2 (10 * y.toNat + x.toNat) (by omega); simp only [cellOk] at this; omega)
      | exact ⟨_, by omega, x + 1, rfl, by omega, by omega, upTo1 x0 hok (by simp only [cellOk]; omega), rfl, rfl, rfl, rfl, rfl⟩
      | exact ⟨_, by omega, y + 1, rfl, by omega, by omega, upTo2 y0 (by omega) hok, rfl, rfl, rfl⟩
      | skip
  · exact rb_t ⟨by omega, by omega, fun k hk => hok k (by omega)⟩

theorem l01Ok_gives (l : IsLawn w h g cs) : Gives G 28 [ar cs] (rb (decide (LawnOk w h g))) := by
  refine Gives.by rfl rfl (W.seq ?_)
  repeat' first | ((with_reducible apply WR.cp); exact rfl; exact rfl; exact rfl; exact rfl; exact l01Side_gives _; exact rfl) | ((with_reducible apply WR.mv); exact rfl; exact rfl) | ((with_reducible apply WR.off); exact rfl) | ((with_reducible apply WR.un); exact rfl; exact rfl) | ((with_reducible apply WR.cv); exact rfl; exact rfl; (first | exact lawn_ww (by assumption) | exact lawn_hw (by assumption))) | ((with_reducible apply WR.ldd); exact rfl; exact rfl; (first | exact lawn_w (by assumption) | exact lawn_h (by assumption))) | ((with_reducible apply WR.pk); exact rfl; exact rfl) | ((with_reducible apply WR.fa); exact rfl; exact rfl) | ((with_reducible apply WR.nc); exact rfl; exact rfl) | ((with_reducible apply WR.nil)) | (with_reducible refine andThen_n ?_) | (with_reducible refine andThen_r ?_) | (with_reducible refine W.seq ?_) | (with_reducible refine W.region ?_) | (with_reducible refine W.skip ?_) | (with_reducible refine W.ret ?_) | (with_reducible refine W.block ?_) | ((with_reducible apply W.condT); exact rfl) | ((with_reducible apply W.condF); exact rfl) | ((with_reducible apply Done.r); exact rfl) | (intro hb; try (exfalso; omega))
  all_goals first | exact rb_f (by simp only [LawnOk]; omega) | skip
  refine W.loopI (fun n σ => ∃ y : Int, n = (10 - y).toNat ∧ 0 ≤ y ∧ y ≤ 10 ∧ (∀ k, k < 10 * y.toNat → cellOk w h g k) ∧ σ.env 3 = .a (.d (.s (.int .i8 y))) ∧ σ.env 0 = .a (.d (.ref cs))) ?_ 10 _ ⟨0, rfl, by omega, by omega, fun k hk => by omega, rfl, rfl⟩
  rintro n σ ⟨y, rfl, y0, y1, hok, e3, e0⟩
  rw [← set_self e3, ← set_self e0]
  repeat' first | ((with_reducible apply WR.mv); exact rfl; exact rfl) | ((with_reducible apply WR.nil)) | (with_reducible refine andThen_n ?_) | (with_reducible refine andThen_x ?_) | (with_reducible refine inB_x ?_) | (with_reducible refine W.seq ?_) | (with_reducible refine W.region ?_) | (with_reducible refine W.skip ?_) | (with_reducible refine W.ret ?_) | (with_reducible refine W.exit ?_) | (with_reducible refine W.block ?_) | ((with_reducible apply W.condT); exact rfl) | ((with_reducible apply W.condF); exact rfl) | ((with_reducible apply Done.r); exact rfl) | (intro hb; try (exfalso; omega)) | ((with_reducible apply WR.lss); exact rfl; exact rfl; exact rfl)
  · refine W.loopI (fun n σ => ∃ x : Int, n = (10 - x).toNat ∧ 0 ≤ x ∧ x ≤ 10 ∧ (∀ k, k < 10 * y.toNat + x.toNat → cellOk w h g k) ∧ σ.env 4 = .a (.d (.s (.int .i8 x))) ∧ σ.env 3 = .a (.d (.s (.int .i8 y))) ∧ σ.env 0 = .a (.d (.ref cs)))
      ?_ 10 _ ⟨0, rfl, by omega, by omega, by simpa using hok, rfl, rfl, rfl⟩
    clear hok e3 e0
    rintro n σ ⟨x, rfl, x0, x1, hok, e4, e3, e0⟩
    rw [← set_self e4, ← set_self e3, ← set_self e0]
    repeat' first | ((with_reducible apply WR.cp); exact rfl; exact rfl; exact rfl; exact rfl; exact l01Kind_gives _; exact rfl) | ((with_reducible apply WR.cp); exact rfl; exact rfl; exact rfl; exact rfl; exact l01Is_gives (by assumption) _ _ (by omega); exact rfl) | ((with_reducible apply WR.mv); exact rfl; exact rfl) | ((with_reducible apply WR.off); exact rfl) | ((with_reducible apply WR.un); exact rfl; exact rfl) | ((with_reducible apply WR.cv); exact rfl; exact rfl; (first | exact i8_in _ (by omega) | exact lawn_wrap (by assumption) (by omega))) | ((with_reducible apply WR.ldd); exact rfl; exact rfl; (first | exact lawn_c (by assumption) (by omega))) | ((with_reducible apply WR.pk); exact rfl; exact rfl) | ((with_reducible apply WR.fa); exact rfl; exact rfl) | ((with_reducible apply WR.nc); exact rfl; exact rfl) | ((with_reducible apply WR.nil)) | (with_reducible refine andThen_n ?_) | (with_reducible refine andThen_x ?_) | (with_reducible refine andThen_r ?_) | (with_reducible refine inB_n ?_) | (with_reducible refine inB_r ?_) | (with_reducible refine inB_x ?_) | (with_reducible refine W.seq ?_) | (with_reducible refine W.region ?_) | (with_reducible refine W.skip ?_) | (with_reducible refine W.ret ?_) | (with_reducible refine W.exit ?_) | (with_reducible refine W.block ?_) | ((with_reducible apply W.condT); exact rfl) | ((with_reducible apply W.condF); exact rfl) | ((with_reducible apply Done.r); exact rfl) | (intro hb; try (exfalso; omega)) | ((with_reducible apply WR.lss); exact rfl; exact rfl; exact rfl) | ((with_reducible apply WR.ad); exact rfl; exact rfl; exact rfl; (first | exact i8_in _ (by omega) | exact lawn_wrap (by assumption) (by omega))) | ((with_reducible apply WR.iad); exact rfl; exact rfl; exact rfl; omega) | ((with_reducible apply WR.neq); exact rfl; exact rfl; exact rfl) | ((with_reducible apply WR.bu); exact rfl; exact rfl)
    all_goals have hcb := fun (h : 10 * y.toNat + x.toNat < 100) => l.cb _ h
    all_goals first
      | exact rb_f (fun hl => by have := hl.2.2 (10 * y.toNat + x.toNat) (by omega); simp only [cellOk] at this; have := hcb (by omega); omega)
      | exact ⟨_, by omega, x + 1, rfl, by omega, by omega, upTo1 x0 hok (by simp only [cellOk]; omega), rfl, rfl, rfl⟩
      | exact ⟨_, by omega, y + 1, rfl, by omega, by omega, upTo2 y0 (by omega) hok, rfl, rfl⟩
  · exact rb_t ⟨by omega, by omega, fun k hk => hok k (by omega)⟩

variable {q : Nat → Int} {qs : List S}
end Go.DM

/- Moles: what the functions of both sides give. -/
set_option linter.unusedSimpArgs false
set_option linter.unusedVariables false
namespace Go.DM
set_option linter.unusedSectionVars false
variable [Tok]
open Go.IntWalk
variable {w h : Int} {g : Nat → Int} {cs : List S} {q : Nat → Int} {qs : List S}

end Go.DM

/- Moles: codes, cells beside. -/
set_option linter.unusedSimpArgs false
set_option linter.unusedVariables false
namespace Go.DM
set_option linter.unusedSectionVars false
variable [Tok]
open Go.IntWalk
variable {w h : Int} {g : Nat → Int} {cs : List S} {q : Nat → Int} {qs : List S}

theorem beside_gives (x y : Int) (hx : -127 ≤ x ∧ x ≤ 126 ∧ -127 ≤ y ∧ y ≤ 126) : Gives G 89 [ac x y] ⟨[.own 4 2 (encC (Near x y))], []⟩ := by
  refine Gives.by rfl rfl (W.seq ?_)
  repeat' first | ((with_reducible apply WR.lx); exact rfl; exact rfl) | ((with_reducible apply WR.fa); exact rfl; exact rfl) | ((with_reducible apply WR.bu); exact rfl; exact rfl) | ((with_reducible apply WR.nil)) | (with_reducible refine andThen_n ?_) | (with_reducible refine W.seq ?_) | (with_reducible refine W.region ?_) | (with_reducible refine W.ret ?_) | ((with_reducible apply Done.r); exact rfl) | ((with_reducible apply WR.mv); exact rfl; exact rfl) | ((with_reducible apply WR.ad); exact rfl; exact rfl; exact rfl; (first | exact i8_in _ (by omega))) | ((with_reducible apply WR.sb); exact rfl; exact rfl; exact rfl; (first | exact i8_in _ (by omega))) | ((with_reducible apply WR.bo); exact rfl; exact rfl; (first | exact rfl)) | ((with_reducible apply WR.bs); exact rfl; exact rfl; (first | exact rfl))
  all_goals rfl
end Go.DM

/- slices.DeleteFunc over cells. -/
set_option linter.unusedSimpArgs false
set_option linter.unusedVariables false
namespace Go.DM
set_option linter.unusedSectionVars false
variable [Tok]
open Go.IntWalk

theorem encC_tk : ∀ (m : List Cel) (k : Nat), (encC m).take (k * 2) = encC (m.take k)
  | [], k => by simp [encC]
  | p :: r, 0 => by simp [encC]
  | p :: r, k + 1 => by
    rw [show (k + 1) * 2 = k * 2 + 2 by omega]
    simp only [encC, List.take_succ_cons, encC_tk r k]
theorem encC_dr : ∀ (m : List Cel) (k : Nat), (encC m).drop (k * 2) = encC (m.drop k)
  | [], k => by simp [encC]
  | p :: r, 0 => by simp [encC]
  | p :: r, k + 1 => by
    rw [show (k + 1) * 2 = k * 2 + 2 by omega]
    simp only [encC, List.drop_succ_cons, encC_dr r k]
theorem encC_rep : ∀ n : Nat, replicate n [.int .i8 0, .int .i8 0] = encC (List.replicate n (0, 0))
  | 0 => rfl
  | n + 1 => by
    have ih := encC_rep n
    simp only [replicate, List.replicate_succ, List.flatten_cons, encC] at ih ⊢
    rw [ih]; rfl
theorem encC_set (m : List Cel) (i : Nat) (c : Cel) (h : i < m.length) : (encC m).take (i * 2) ++ [.int .i8 c.1, .int .i8 c.2] ++ (encC m).drop (i * 2 + 2) = encC (m.set i c) := by
  rw [show i * 2 + 2 = (i + 1) * 2 by omega, encC_tk, encC_dr, show ([.int .i8 c.1, .int .i8 c.2] : List S) = encC [c] from rfl, ← encC_append, ← encC_append]
  congr 1
  rw [List.set_eq_take_append_cons_drop, if_pos h]
  simp
theorem storeC {p : Bool} {m : List Cel} {i : Int} {c : Cel} (hi : 0 ≤ i) (h : i < (m.length : Nat)) : storeO 2 (.a (.d (.agg [.int .i8 c.1, .int .i8 c.2]))) (0 + i.toNat * 2) (.flat p (encC m)) = some (.flat p (encC (m.set i.toNat c))) := by
  have h2 : i.toNat < m.length := by omega
  have h3 := encC_length m
  simp only [storeO, cellsOf, Nat.zero_add]
  rw [if_pos ⟨rfl, by omega⟩]
  rw [← encC_set m i.toNat c h2]
theorem clearC (m : List Cel) (k : Nat) (h : k ≤ m.length) : (encC m).take (0 + k * 2) ++ replicate (m.length - k) [.int .i8 0, .int .i8 0] ++ (encC m).drop (0 + k * 2 + (m.length - k) * 2) = encC (m.take k ++ List.replicate (m.length - k) (0, 0)) := by
  rw [Nat.zero_add, encC_tk, encC_rep, List.drop_eq_nil_of_le (by rw [encC_length]; omega), List.append_nil, encC_append]

section
variable {Γ : Nat → Option Fn} {dsts : Nat → Option Nat} {ops : List Oper} {Q : St → Prop} {σ : St} {d : Option Nat} {g : Option (Nat × Bool)} {l1 l2 l3 l4 : List Nat}
theorem bound_i {k : IntKind} {i : Int} {n : Nat} (h : 0 ≤ i) : bound (some (.a (.d (.s (.int k i))))) n = some i.toNat := by simp [bound, asI, h]
theorem bound_n {k : IntKind} {i n : Nat} : bound (some (.a (.d (.s (.int k (i : Nat)))))) n = some i := by simp [bound, asI]
/-- A part of a slice of the call's own. -/
theorem WR.s2 {es p off n l h : Nat} {a : Opd} {lo hi : Option Opd} (hw : wanted dsts σ.env g = some true) (ha : ev σ.env a = .a (.sl p off n es)) (hl : bound (lo.map (ev σ.env)) 0 = some l) (hh : bound (hi.map (ev σ.env)) n = some h) (hb : l ≤ h ∧ h ≤ n)
    (K : WR Γ dsts ops Q (set d (.a (.sl p (off + l * es) (h - l) es)) σ)) : WR Γ dsts (⟨d, .slc (.sl es) a lo hi, g, l1, l2, l3, l4⟩ :: ops) Q σ :=
  WR.q hw (by simp only [quiet, ha, slc, hl, hh, Option.bind_some]; rw [if_pos ⟨hb.1, hb.2, trivial⟩]) K
theorem WR.cr {es p off n : Nat} {par : Bool} {zs cs : List S} {a : Opd} (hw : wanted dsts σ.env g = some true) (ha : ev σ.env a = .a (.sl p off n es)) (ho : σ.objs p = some (.flat par cs)) (hz : zs.length = es) (hc : off + n * es ≤ cs.length)
    (K : WR Γ dsts ops Q (put p (.flat par (cs.take off ++ replicate n zs ++ cs.drop (off + n * es))) σ)) : WR Γ dsts (⟨none, .clr es zs a, g, l1, l2, l3, l4⟩ :: ops) Q σ := by
  refine WR.cons ⟨0, step_dl (r := ⟨.tup [], [], [(p, .flat par (cs.take off ++ replicate n zs ++ cs.drop (off + n * es)))]⟩) hw ?_ rfl⟩ ?_
  · simp only [delta, ha, ho]
    rw [if_pos ⟨trivial, hz, hc⟩]
  · simp only [applyD, insertAll, kill_nil, set]
    exact K
end

theorem toDV_sl {objs : Nat → Option Ob} {p : Nat} {par : Bool} {l : List Cel} (h : objs p = some (.flat par (encC l))) (k : Nat) : toDV objs (k + 1) (.a (.sl p 0 l.length 2)) = some (.sl l.length 2 (encC l)) := by
  simp only [toDV, toDA, h]
  rw [if_pos (by rw [encC_length]; omega), encC_take l _ rfl]

def kept (P : Cel → Prop) [DecidablePred P] (l : List Cel) : List Cel := l.filter fun c => decide (¬ P c)
theorem kept_all {P : Cel → Prop} [DecidablePred P] {l : List Cel} (h : ∀ c ∈ l, ¬ P c) : kept P l = l := by
  unfold kept
  rw [List.filter_eq_self]
  intro c hc; simpa using h c hc
theorem idxOf_spec (P : Cel → Prop) [DecidablePred P] : ∀ (l : List Cel) (i : Int), 0 ≤ i → (idxOf P l i = -1 ∧ ∀ c ∈ l, ¬ P c) ∨ ∃ (k : Nat) (c : Cel), idxOf P l i = i + k ∧ l[k]? = some c ∧ P c ∧ ∀ d ∈ l.take k, ¬ P d
  | [], i, hi => .inl ⟨rfl, fun c hc => by cases hc⟩
  | c :: r, i, hi => by
    by_cases h : P c
    · refine .inr ⟨0, c, ?_, rfl, h, fun d hd => by simp at hd⟩
      simp [idxOf, h]
    · rcases idxOf_spec P r (i + 1) (by omega) with ⟨h1, h2⟩ | ⟨k, d, h1, h2, h3, h4⟩
      · refine .inl ⟨by simp only [idxOf, if_neg h, h1], fun d hd => ?_⟩
        rcases List.mem_cons.1 hd with rfl | hd
        · exact h
        · exact h2 d hd
      · refine .inr ⟨k + 1, d, by simp only [idxOf, if_neg h, h1]; omega, by simpa using h2, h3, fun e he => ?_⟩
        rw [List.take_succ_cons] at he
        rcases List.mem_cons.1 he with rfl | he
        · exact h
        · exact h4 e he
theorem kept_take {P : Cel → Prop} [DecidablePred P] {l : List Cel} {j : Nat} {c : Cel} (h : l[j]? = some c) : kept P (l.take (j + 1)) = kept P (l.take j) ++ (if P c then [] else [c]) := by
  obtain ⟨h1, h2⟩ := List.getElem?_eq_some_iff.1 h
  unfold kept
  rw [List.take_add_one, h, List.filter_append]
  congr 1
  by_cases hp : P c <;> simp [hp]

theorem args_sl {σ : St} {p : Nat} {par : Bool} {l : List Cel} {x : D} (h : σ.objs p = some (.flat par (encC l))) : args σ [] [] [.a (.sl p 0 l.length 2), .a (.d x)] = some [asl l, .d x] := by
  have h1 : toDV (fun o => if ([] : List Nat).contains o then none else σ.objs o) depth (.a (.sl p 0 l.length 2)) = some (.sl l.length 2 (encC l)) := toDV_sl (by simpa using h) 5
  simp only [args]
  rw [h1]
  rfl
theorem finish_ms {fn : Fn} {σ : St} {t n es0 off m es : Nat} {cs cs' : List S} {x : D} (hr : fn.res = [.tmp t]) (he : σ.env t = .a (.sl 0 off m es)) (ho : σ.objs 0 = some (.flat true cs')) (hl : cs'.length = cs.length) :
    finish fn [.ms n es0 cs, .d x] σ = some ⟨[.par 0 off m es], [cs']⟩ := by
  simp [finish, hr, all?, resV, he, retOf, ho, nodup, outsOf, isMut, outOf, hl]

end Go.DM

/- Levels with one more; the closures of a mole's night. -/
set_option linter.unusedSimpArgs false
set_option linter.unusedVariables false
namespace Go.DM
set_option linter.unusedSectionVars false
variable [Tok]
open Go.IntWalk
variable {w h : Int} {g : Nat → Int} {cs : List S} {q : Nat → Int} {qs : List S}

theorem storeAll {p : Bool} {n : Nat} {cs xs : List S} (h1 : xs.length = n) (h2 : cs.length = n) : storeO n (.a (.d (.agg xs))) 0 (.flat p cs) = some (.flat p xs) := by
  simp only [storeO, cellsOf]
  rw [if_pos ⟨h1, by omega⟩, List.drop_eq_nil_of_le (by omega)]
  simp
theorem finish_c {fn : Fn} {σ : St} {as : List Arg} {t n p : Nat} {b : Bool} {cs : List S} (hr : fn.res = [.cell t n true]) (he : σ.env t = .a (.ptr p 0)) (ho : σ.objs p = some (.flat b cs)) (hl : cs.length = n) (hm : outsOf σ 0 as = some []) :
    finish fn as σ = some ⟨[.agg cs], []⟩ := by
  simp only [finish, hr, all?, resV, he, load, ho, loadC_all hl, Option.bind_some, Option.map_some, retOf]
  simp [nodup, hm]
/-- Levels with another number at a place. -/
def levSet (q : Nat → Int) (k : Nat) (n : Int) : Nat → Int := fun i => if i = k then n else q i
theorem IsLev.set (v : IsLev q qs) {k : Nat} (hk : k < 100) {n : Int} (hn : -128 ≤ n ∧ n ≤ 127) : IsLev (levSet q k n) (qs.set k (.int .i8 n)) := by
  refine ⟨fun i hi => ?_, by rw [List.length_set]; exact v.len, fun i hi => ?_⟩
  · simp only [levSet]; split
    · exact hn
    · exact v.cb i hi
  · simp only [levSet]
    by_cases e : i = k
    · subst e; rw [if_pos rfl, List.getElem?_set_self (by rw [v.len]; exact hi)]
    · rw [if_neg e, List.getElem?_set_ne (fun h => e h.symm)]; exact v.c i hi
theorem storeL (v : IsLev q qs) {p : Bool} {x y n : Int} (hb : 0 ≤ x ∧ x < 10 ∧ 0 ≤ y ∧ y < 10) : storeO 1 (.a (.d (.s (.int .i8 n)))) (0 + y.toNat * 10 + x.toNat * 1) (.flat p qs) = some (.flat p (qs.set (10 * y.toNat + x.toNat) (.int .i8 n))) := by
  have e : 0 + y.toNat * 10 + x.toNat * 1 = 10 * y.toNat + x.toNat := by omega
  have hl := v.len
  simp only [storeO, cellsOf, e]
  rw [if_pos ⟨rfl, by omega⟩]
  congr 2
  rw [List.set_eq_take_append_cons_drop, if_pos (by omega)]
  simp

end Go.DM
