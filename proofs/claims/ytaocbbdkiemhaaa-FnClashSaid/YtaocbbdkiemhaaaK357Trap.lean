/- The reference's code of cells that have to be open. -/
import Derived.Test.YtaocbbdkiemhaaaK357All
import Derived.Test.YtaocbbdkiemhaaaK357Beside
import Derived.Test.YtaocbbdkiemhaaaK357Steps
import Derived.Test.YtaocbbdkiemhaaaK357Open2
import Derived.Test.YtaocbbdkiemhaaaK357Loop
import Derived.Test.YtaocbbdkiemhaaaK357Those
set_option linter.unusedSimpArgs false
set_option linter.unusedVariables false
set_option maxHeartbeats 4000000
namespace Go.DM
set_option linter.unusedSectionVars false
variable [Tok]
open Go.IntWalk
variable {w h : Int} {g : Nat → Int} {cs : List S}
theorem all_snoc {p : Cel → Prop} {L : List Cel} {i : Nat} (hi : i < L.length) : (∀ c ∈ L.take (i + 1), p c) ↔ (∀ c ∈ L.take i, p c) ∧ p (gC L i) := by
  rw [List.take_add_one, gC_get hi]
  simp only [Option.toList_some, List.mem_append, List.mem_singleton]
  constructor
  · intro h; exact ⟨fun c hc => h c (.inl hc), h _ (.inr rfl)⟩
  · rintro ⟨h1, h2⟩ c (hc | rfl)
    · exact h1 c hc
    · exact h2
theorem bstep_t {b : Bool} {A A' p : Prop} (h1 : b = true ↔ A) (h2 : A' ↔ A ∧ p) (hb : b = true) (hp : p) : true = true ↔ A' := ⟨fun _ => h2.2 ⟨h1.1 hb, hp⟩, fun _ => rfl⟩
theorem bstep_f {b : Bool} {A A' p : Prop} (h1 : b = true ↔ A) (h2 : A' ↔ A ∧ p) (hn : b = false ∨ ¬ p) : false = true ↔ A' := ⟨fun h => (nomatch h), fun h => by
  have h3 := h2.1 h
  rcases hn with hn | hn
  · have := h1.2 h3.1; rw [hn] at this; exact this
  · exact absurd h3.2 hn⟩
abbrev InB (c : Cel) : Prop := -128 ≤ c.1 ∧ c.1 ≤ 127 ∧ -128 ≤ c.2 ∧ c.2 ≤ 127
theorem l04Told_gives (l : IsLawn w h g cs) (ls : List Cel) (hl : ls.length ≤ 1000) (b : Bool) (hx : ∀ c ∈ ls, InB c) : Gives G 35 [ar cs, asl ls, ab b] (ri .i64 (belowCode (LawnOk w h g) (b = true ∧ ∀ c ∈ ls, Has w h c.1 c.2) (∀ c ∈ ls, Opn w h g c.1 c.2))) := by
  refine Gives.by rfl rfl (W.seq ?_)
  repeat' first | ((with_reducible apply WR.c_p (f := 28) (fn := Code.f28)); exact rfl; exact rfl; exact rfl; (first | exact rfl); (focus ((repeat' first | exact args_nil | apply args_d | exact toD_d rfl | exact all_nil | apply all_cons | exact rfl); done)); exact l01Ok_gives (by assumption)) | ((with_reducible apply WR.mv); exact rfl; exact rfl) | ((with_reducible apply WR.un); exact rfl; exact rfl) | ((with_reducible apply WR.nil)) | (with_reducible refine andThen_n ?_) | (with_reducible refine andThen_r ?_) | (with_reducible refine W.seq ?_) | (with_reducible refine W.region ?_) | (with_reducible refine W.skip ?_) | (with_reducible refine W.ret ?_) | (with_reducible refine W.block ?_) | ((with_reducible apply W.condT); exact rfl) | ((with_reducible apply W.condF); exact rfl) | ((with_reducible apply Done.f); (intro hh hh2; exact (nomatch hh2)); (focus ((repeat' first | exact all_nil | apply all_cons | exact res_tmp rfl | exact rfl); done)); (focus ((repeat' first | exact all_nil | apply all_cons | exact retOf_s rfl | exact rfl); done)); exact rfl; (focus ((repeat' first | exact outs_nil | apply outs_d | exact rfl); done))) | (intro hb; try (exfalso; omega))
  · have hL : LawnOk w h g := by assumption
    (refine (?_ : W _ (Code.loop _) _ _))
    (refine W.loopM [0, 1] [] [] (fun zz : (Nat) × (Bool) => match zz with | (i, c) => (ls.length - i : Nat)) (fun zz : (Nat) × (Bool) => match zz with | (i, c) => (i ≤ ls.length ∧ (c = true ↔ (b = true ∧ ∀ c ∈ ls.take i, Has w h c.1 c.2)) : Prop)) (fun zz : (Nat) × (Bool) => match zz with | (i, c) => [(7, .a (.d (.s (.int .i64 (i : Nat))))), (2, .a (.d (.s (.bool c))))]) (fun zz : (Nat) × (Bool) => match zz with | (i, c) => []) (0, b) (⟨by omega, by simp⟩) ⟨rfl, rfl, trivial⟩ trivial trivial ?_)
    rintro ⟨i, c⟩ σ hP hN; dsimp only [setL, putL] at hP ⊢
    obtain ⟨hi, hc⟩ := hP
    by_cases hil : i < ls.length
    · have hb1 := hx _ (gC_mem hil)
      have h3 : (b = true ∧ ∀ c ∈ ls.take (i + 1), Has w h c.1 c.2) ↔ (b = true ∧ ∀ c ∈ ls.take i, Has w h c.1 c.2) ∧ Has w h (gC ls i).1 (gC ls i).2 := by rw [all_snoc hil, and_assoc]
      cases c
      all_goals
        repeat' first | ((with_reducible apply WR.c_p (f := 50) (fn := Code.f50)); exact rfl; exact rfl; exact rfl; (first | exact rfl); (focus ((repeat' first | exact args_nil | apply args_d | exact toD_d rfl | exact rfl); done)); exact l01Is_gives (by assumption) _ _ (by omega)) | ((with_reducible apply WR.mv); exact rfl; exact rfl) | ((with_reducible apply WR.off); exact rfl) | ((with_reducible apply WR.nil)) | (with_reducible refine andThen_n ?_) | (with_reducible refine inB_n ?_) | (with_reducible refine W.seq ?_) | (with_reducible refine W.region ?_) | (with_reducible refine W.skip ?_) | (with_reducible refine W.block ?_) | ((with_reducible apply W.condT); exact rfl) | (intro hb; try (exfalso; omega)) | ((with_reducible apply WR.lss); exact rfl; exact rfl; exact rfl) | ((with_reducible apply WR.ad); exact rfl; exact rfl; exact rfl; (first | exact i64_in _ (by omega))) | ((with_reducible apply WR.idn); exact rfl; exact rfl; exact rfl; omega; (first | exact Nat.le_of_eq (encC_length _).symm)) | ((with_reducible apply WR.ldd); exact rfl; exact rfl; (first | exact ldCd (by first | omega))) | ((with_reducible apply WR.le); exact rfl; exact rfl) | ((with_reducible apply WR.pk); exact rfl; exact rfl)
      all_goals first
        | ((refine W.nxt (i + 1, true) (by first | omega | (dsimp only; omega)) ?_ ⟨rfl, rfl, trivial⟩ trivial ⟨rfl, rfl, trivial⟩ trivial trivial); (try dsimp only)
           exact ⟨by omega, bstep_t hc h3 rfl (by assumption)⟩)
        | ((refine W.nxt (i + 1, false) (by first | omega | (dsimp only; omega)) ?_ ⟨rfl, rfl, trivial⟩ trivial ⟨rfl, rfl, trivial⟩ trivial trivial); (try dsimp only)
           exact ⟨by omega, bstep_f hc h3 (by first | exact .inl rfl | exact .inr (by assumption))⟩)
    · rw [show ls.take i = ls from List.take_of_length_le (by omega)] at hc
      cases c
      all_goals
        repeat' first | ((with_reducible apply WR.mv); exact rfl; exact rfl) | ((with_reducible apply WR.un); exact rfl; exact rfl) | ((with_reducible apply WR.nil)) | (with_reducible refine andThen_n ?_) | (with_reducible refine andThen_x ?_) | (with_reducible refine andThen_r ?_) | (with_reducible refine inB_x ?_) | (with_reducible refine W.seq ?_) | (with_reducible refine W.region ?_) | (with_reducible refine W.skip ?_) | (with_reducible refine W.ret ?_) | (with_reducible refine W.exit ?_) | (with_reducible refine W.block ?_) | ((with_reducible apply W.condT); exact rfl) | ((with_reducible apply W.condF); exact rfl) | ((with_reducible apply Done.f); (intro hh hh2; exact (nomatch hh2)); (focus ((repeat' first | exact all_nil | apply all_cons | exact res_tmp rfl); done)); (focus ((repeat' first | exact all_nil | apply all_cons | exact retOf_s rfl); done)); exact rfl; (focus ((repeat' first | exact outs_nil | apply outs_d); done))) | (intro hb; try (exfalso; omega)) | ((with_reducible apply WR.lss); exact rfl; exact rfl; exact rfl) | ((with_reducible apply WR.le); exact rfl; exact rfl)
      · exact bc2 hL (fun hh => by simpa using hc.2 hh)
      · have hf := hc.1 rfl
        clear hc hil hi hN
        (refine (?_ : W _ (Code.loop _) _ _))
        (refine W.loopM [0, 1] [] [] (fun j : (Nat) => (ls.length - j : Nat)) (fun j : (Nat) => (j ≤ ls.length ∧ ∀ c ∈ ls.take j, Opn w h g c.1 c.2 : Prop)) (fun j : (Nat) => [(8, .a (.d (.s (.int .i64 (j : Nat)))))]) (fun j : (Nat) => []) 0 (⟨by omega, by simp⟩) ⟨rfl, trivial⟩ trivial trivial ?_)
        rintro j σ hP hN; dsimp only [setL, putL] at hP ⊢
        obtain ⟨hj, ho⟩ := hP
        by_cases hjl : j < ls.length
        · have hH := hf.2 _ (gC_mem hjl)
          have hLw := hL.1
          have hLh := hL.2.1
          repeat' first | ((with_reducible apply WR.c_p (f := 72) (fn := Code.f72)); exact rfl; exact rfl; exact rfl; (first | exact rfl); (focus ((repeat' first | exact args_nil | apply args_d | exact toD_d rfl | exact all_nil | apply all_cons | exact rfl); done)); exact l01Open_gives (by assumption) _ _ (by omega)) | ((with_reducible apply WR.mv); exact rfl; exact rfl) | ((with_reducible apply WR.un); exact rfl; exact rfl) | ((with_reducible apply WR.nil)) | (with_reducible refine andThen_n ?_) | (with_reducible refine andThen_r ?_) | (with_reducible refine inB_n ?_) | (with_reducible refine inB_r ?_) | (with_reducible refine W.seq ?_) | (with_reducible refine W.region ?_) | (with_reducible refine W.skip ?_) | (with_reducible refine W.ret ?_) | (with_reducible refine W.block ?_) | ((with_reducible apply W.condT); exact rfl) | ((with_reducible apply W.condF); exact rfl) | ((with_reducible apply Done.f); (intro hh hh2; exact (nomatch hh2)); (focus ((repeat' first | exact all_nil | apply all_cons | exact res_tmp rfl | exact rfl); done)); (focus ((repeat' first | exact all_nil | apply all_cons | exact retOf_s rfl | exact rfl); done)); exact rfl; (focus ((repeat' first | exact outs_nil | apply outs_d | exact rfl); done))) | (intro hb; try (exfalso; omega)) | ((with_reducible apply WR.lss); exact rfl; exact rfl; exact rfl) | ((with_reducible apply WR.ad); exact rfl; exact rfl; exact rfl; (first | exact i64_in _ (by omega))) | ((with_reducible apply WR.idn); exact rfl; exact rfl; exact rfl; omega; (first | exact Nat.le_of_eq (encC_length _).symm)) | ((with_reducible apply WR.ldd); exact rfl; exact rfl; (first | exact ldCd (by first | omega))) | ((with_reducible apply WR.le); exact rfl; exact rfl)
          · (refine W.nxt (j + 1) (by first | omega | (dsimp only; omega)) ?_ ⟨rfl, trivial⟩ trivial ⟨rfl, rfl, trivial⟩ trivial trivial); (try dsimp only)
            exact ⟨by omega, (all_snoc hjl).2 ⟨ho, hH, by assumption⟩⟩
          · exact bc4 hL hf (fun hh => absurd (hh _ (gC_mem hjl)).2 (by assumption))
        · rw [show ls.take j = ls from List.take_of_length_le (by omega)] at ho
          repeat' first | ((with_reducible apply WR.mv); exact rfl; exact rfl) | ((with_reducible apply WR.nil)) | (with_reducible refine andThen_n ?_) | (with_reducible refine andThen_x ?_) | (with_reducible refine inB_x ?_) | (with_reducible refine W.seq ?_) | (with_reducible refine W.region ?_) | (with_reducible refine W.ret ?_) | (with_reducible refine W.exit ?_) | ((with_reducible apply W.condF); exact rfl) | ((with_reducible apply Done.f); (intro hh hh2; exact (nomatch hh2)); (focus ((repeat' first | exact all_nil | apply all_cons | exact res_tmp rfl); done)); (focus ((repeat' first | exact all_nil | apply all_cons | exact retOf_s rfl); done)); exact rfl; (focus ((repeat' first | exact outs_nil | apply outs_d); done))) | (intro hb; try (exfalso; omega)) | ((with_reducible apply WR.lss); exact rfl; exact rfl; exact rfl) | ((with_reducible apply WR.le); exact rfl; exact rfl)
          exact bc0 hL hf ho
  · exact bc1 (by assumption)
end Go.DM

/- NightOf: the program's side. -/
set_option linter.unusedSimpArgs false
set_option linter.unusedVariables false
namespace Go.DM
set_option linter.unusedSectionVars false
variable [Tok]
open Go.IntWalk
variable {w h : Int} {g : Nat → Int} {cs : List S} {q : Nat → Int} {qs : List S}

section
variable {Γ : Nat → Option Fn} {dsts : Nat → Option Nat} {ops : List Oper} {Q : St → Prop} {σ : St} {d : Option Nat} {gd : Option (Nat × Bool)} {l1 l2 l3 l4 : List Nat}
theorem WH.s2 {es p off n l h : Nat} {a : Opd} {lo hi : Option Opd} (hw : wanted dsts (kill l1 (only l3 σ)).env gd = some true) (ha : ev (kill l1 (only l3 σ)).env a = .a (.sl p off n es)) (hl : bound (lo.map (ev (kill l1 (only l3 σ)).env)) 0 = some l) (hh : bound (hi.map (ev (kill l1 (only l3 σ)).env)) n = some h) (hb : l ≤ h ∧ h ≤ n)
    (hv : killV l1 (.a (.sl p (off + l * es) (h - l) es)) = .a (.sl p (off + l * es) (h - l) es)) (K : WH Γ dsts ops Q (set d (.a (.sl p (off + l * es) (h - l) es)) σ)) : WH Γ dsts (⟨d, .slc (.sl es) a lo hi, gd, l1, l2, l3, l4⟩ :: ops) Q σ :=
  WH.q hw (by simp only [veil, quiet, ha, slc, hl, hh, Option.bind_some]; rw [if_pos ⟨hb.1, hb.2, trivial⟩]) hv K
end
theorem belowCode_congr {a b c a' b' c' : Prop} {d1 : Decidable a} {d2 : Decidable b} {d3 : Decidable c} {e1 : Decidable a'} {e2 : Decidable b'} {e3 : Decidable c'} (h1 : a ↔ a') (h2 : b ↔ b') (h3 : c ↔ c') : belowCode a b c = belowCode a' b' c' := by
  unfold belowCode
  by_cases k1 : a <;> by_cases k2 : b <;> by_cases k3 : c <;> simp [k1, k2, k3, ← h1, ← h2, ← h3]
end Go.DM

/- The statements' own functions: copies of cells, lawns, levels. -/
set_option linter.unusedSimpArgs false
set_option linter.unusedVariables false
namespace Go.DM
set_option linter.unusedSectionVars false
variable [Tok]
open Go.IntWalk
end Go.DM

/- The least battery: both sides, the statement. -/
set_option linter.unusedSimpArgs false
set_option linter.unusedVariables false
set_option maxHeartbeats 4000000
namespace Go.DM
set_option linter.unusedSectionVars false
variable [Tok]
open Go.IntWalk
variable {w h : Int} {g : Nat → Int} {cs : List S}

theorem visit_inv {ok : Cel → Prop} [DecidablePred ok] (hs : w ≤ 10 ∧ h ≤ 10) (hok : ∀ e, ok e → Has w h e.1 e.2) {c e : Cel} {s : (Nat → Int) × List Cel} (b : BInv w h s.1 (c :: s.2)) : BInv w h (visit ok c s e).1 (c :: (visit ok c s e).2) := by
  unfold visit
  split
  · rename_i hh
    have := (b.push hs (List.mem_cons_self ..) (hok e hh.1) hh.2).1
    exact this
  · exact b
theorem fold_inv {ok : Cel → Prop} [DecidablePred ok] (hs : w ≤ 10 ∧ h ≤ 10) (hok : ∀ e, ok e → Has w h e.1 e.2) {c : Cel} : ∀ (L : List Cel) {s : (Nat → Int) × List Cel}, BInv w h s.1 (c :: s.2) → BInv w h (L.foldl (visit ok c) s).1 (c :: (L.foldl (visit ok c) s).2)
  | [], s, b => b
  | e :: r, s, b => fold_inv hs hok r (visit_inv hs hok b)
theorem bfs_b {ok : Cel → Prop} [DecidablePred ok] (hs : w ≤ 10 ∧ h ≤ 10) (hok : ∀ e, ok e → Has w h e.1 e.2) : ∀ (n : Nat) {s : (Nat → Int) × List Cel}, BInv w h s.1 s.2 → ∀ k, -1 ≤ bfs ok n s k ∧ bfs ok n s k ≤ 100
  | 0, s, b, k => ⟨b.lo k, by have := b.hi k; simp only [bfs]; omega⟩
  | n + 1, (d, []), b, k => ⟨b.lo k, by have := b.hi k; simp only [bfs] at *; omega⟩
  | n + 1, (d, c :: r), b, k => by
    have h1 := fold_inv hs hok (Near c.1 c.2) (s := (d, r)) b
    exact bfs_b hs hok n ⟨h1.lo, h1.hi, fun a ha => h1.q a (List.mem_cons_of_mem _ ha), by have := h1.len; rw [List.length_cons] at this; omega⟩ k
theorem far_b {ok : Cel → Prop} [DecidablePred ok] (hs : w ≤ 10 ∧ h ≤ 10) (hok : ∀ e, ok e → Has w h e.1 e.2) {c : Cel} (hc : Has w h c.1 c.2) (k : Nat) : -1 ≤ far ok c k ∧ far ok c k ≤ 100 :=
  bfs_b hs hok 100 (BInv.first hs hc).1 k
theorem far_congr {ok ok' : Cel → Prop} [d1 : DecidablePred ok] [d2 : DecidablePred ok'] (hh : ∀ c, ok c ↔ ok' c) (c : Cel) : far ok c = far ok' c := by
  have e : ok = ok' := funext fun c => propext (hh c)
  subst e
  have : d1 = d2 := Subsingleton.elim _ _
  rw [this]
/-- Steps over open cells. -/
def steps (w h : Int) (g : Nat → Int) (c : Cel) : Nat → Int := far (okS w h g false) c
theorem steps_eq (c : Cel) : far (okP w h fun c => Opn w h g c.1 c.2) c = steps w h g c := by
  unfold steps
  refine far_congr (fun e => ?_) c
  simp only [okP, okS, Opn, ix]
  constructor
  · rintro ⟨h1, _, h2⟩; exact ⟨h1, h2.imp id fun h => ⟨trivial, h⟩⟩
  · rintro ⟨h1, h2⟩; exact ⟨h1, h1, h2.imp id fun h => h.2⟩
theorem steps_b (hs : w ≤ 10 ∧ h ≤ 10) {c : Cel} (hc : Has w h c.1 c.2) (k : Nat) : -1 ≤ steps w h g c k ∧ steps w h g c k ≤ 100 := far_b hs (fun e he => he.1) hc k
end Go.DM

/- Maps of cells with a number each: rules. -/
set_option linter.unusedSimpArgs false
set_option linter.unusedVariables false
namespace Go.DM
set_option linter.unusedSectionVars false
variable [Tok]
open Go.IntWalk
abbrev KC : List SK := [.int .i8, .int .i8]
def encM (M : List (Cel × Int)) : List (List S × List S) := M.map fun p => ([.int .i8 p.1.1, .int .i8 p.1.2], [.int .i64 p.2])
def cntM : List (Cel × Int) → Cel → Int
  | [], _ => 0
  | p :: r, c => if p.1 = c then p.2 else cntM r c
def hasM : List (Cel × Int) → Cel → Bool
  | [], _ => false
  | p :: r, c => if p.1 = c then true else hasM r c
def idxM : List (Cel × Int) → Cel → Nat
  | [], _ => 0
  | p :: r, c => if p.1 = c then 0 else idxM r c + 1
def entM (M : List (Cel × Int)) (c : Cel) : List (Cel × Int) := if hasM M c then M else M ++ [(c, 0)]
def stoM (j : Nat) (n : Int) (M : List (Cel × Int)) : List (Cel × Int) := match M[j]? with | some p => M.set j (p.1, n) | none => M
theorem eqKey (x y x' y' : Int) : eqSs [.int .i8 x, .int .i8 y] [.int .i8 x', .int .i8 y'] = decide ((x', y') = (x, y)) := by
  simp only [eqSs, eqS, Bool.and_true, Prod.mk.injEq]
  by_cases h1 : x = x'
  · by_cases h2 : y = y'
    · subst h1; subst h2; simp
    · simp [h1, h2, Ne.symm h2]
  · simp [h1, Ne.symm h1]
theorem mfind_M {x y : Int} : ∀ M : List (Cel × Int), (mfind [.int .i8 x, .int .i8 y] (encM M)).getD [.int .i64 0] = [.int .i64 (cntM M (x, y))] ∧ (mfind [.int .i8 x, .int .i8 y] (encM M)).isSome = hasM M (x, y) ∧ midx [.int .i8 x, .int .i8 y] (encM M) = idxM M (x, y)
  | [] => ⟨rfl, rfl, rfl⟩
  | ((x', y'), n) :: r => by
    obtain ⟨h1, h2, h3⟩ := mfind_M (x := x) (y := y) r
    simp only [encM, List.map_cons, mfind, midx, eqKey] at h1 h2 h3 ⊢
    by_cases h : (x', y') = (x, y)
    · simp only [h, decide_true, if_true, cntM, hasM, idxM]; simp
    · simp only [h, decide_false, Bool.false_eq_true, if_false, cntM, hasM, idxM]
      exact ⟨h1, h2, by rw [h3]⟩
theorem mentry_M {x y : Int} (M : List (Cel × Int)) : mentry [.int .i8 x, .int .i8 y] [.int .i64 0] (encM M) = encM (entM M (x, y)) := by
  unfold mentry entM
  rw [(mfind_M M).2.1]
  cases hasM M (x, y) with
  | true => rfl
  | false => simp [encM]
theorem mstore_M {j : Nat} {n : Int} (M : List (Cel × Int)) : mstore j [.int .i64 n] (encM M) = encM (stoM j n M) := by
  unfold mstore stoM encM
  rw [List.getElem?_map]
  cases h : M[j]? with
  | none => simp
  | some p => simp [List.map_set]
theorem encM_len (M : List (Cel × Int)) : (encM M).length = M.length := by simp [encM]
theorem noPar_putm {σ : St} {o p : Nat} {ks : List SK} {es : List (List S × List S)} (h : noPar σ [o] = true) : noPar (put p (.map ks es) σ) [o] = true := by
  rw [noPar_one] at h ⊢
  intro cs' e
  simp only [put, upd] at e
  split at e
  · cases e
  · exact h _ e
section
variable {Γ : Nat → Option Fn} {dsts : Nat → Option Nat} {ops : List Oper} {Q : St → Prop} {σ : St} {d : Option Nat} {g : Option (Nat × Bool)} {l1 l2 l3 l4 : List Nat} {call : Calls}
theorem quiet_mget {m k : Opd} {o : Nat} {M : List (Cel × Int)} {x y : Int} (hm : ev σ.env m = .a (.mp o)) (ho : σ.objs o = some (.map KC (encM M))) (hk : ev σ.env k = .a (.d (.agg [.int .i8 x, .int .i8 y]))) :
    quiet σ (.mget 1 [.int .i64 0] [.int .i8, .int .i8] false m k) = some (.a (.d (.s (.int .i64 (cntM M (x, y)))))) := by
  have h := (mfind_M (x := x) (y := y) M).1
  simp [quiet, hm, mapOf, ho, hk, cellsA, hasKs, hasK, h, ofCells, sv]
theorem WH.mget {m k : Opd} {o : Nat} {M : List (Cel × Int)} {x y : Int} (hw : wanted dsts (kill l1 (only l3 σ)).env g = some true) (hm : ev (kill l1 (only l3 σ)).env m = .a (.mp o)) (ho : (kill l1 (only l3 σ)).objs o = some (.map KC (encM M))) (hk : ev (kill l1 (only l3 σ)).env k = .a (.d (.agg [.int .i8 x, .int .i8 y])))
    (K : WH Γ dsts ops Q (set d (.a (.d (.s (.int .i64 (cntM M (x, y)))))) σ)) : WH Γ dsts (⟨d, .mget 1 [.int .i64 0] [.int .i8, .int .i8] false m k, g, l1, l2, l3, l4⟩ :: ops) Q σ := WH.q hw (quiet_mget hm ho hk) rfl K
theorem WR.mkm {e : Nat} (hw : wanted dsts σ.env g = some true) (hp : noPar σ [e] = true) (k : WR Γ dsts ops Q (set (some e) (.a (.mp e)) (put e (.map KC (encM [])) (kill [e] σ)))) : WR Γ dsts (⟨some e, .mkm [.int .i8, .int .i8], g, l1, l2, l3, l4⟩ :: ops) Q σ :=
  WR.mk (d := e) (ob := .map KC (encM [])) hw rfl rfl (by simp [makes, encM]) hp k
theorem WH.ment {m k : Opd} {o : Nat} {M : List (Cel × Int)} {x y : Int} (hw : wanted dsts (kill l1 (only l3 σ)).env g = some true) (hm : ev (kill l1 (only l3 σ)).env m = .a (.mp o)) (ho : (kill l1 (only l3 σ)).objs o = some (.map KC (encM M))) (hk : ev (kill l1 (only l3 σ)).env k = .a (.d (.agg [.int .i8 x, .int .i8 y]))) (hi : l2.contains o = true)
    (K : WH Γ dsts ops Q (set d (.tup [.dead, .d (.s (.int .i64 (idxM M (x, y) : Nat)))]) (put o (.map KC (encM (entM M (x, y)))) σ))) : WH Γ dsts (⟨d, .ment 1 [.int .i64 0] [.int .i8, .int .i8] m k, g, l1, l2, l3, l4⟩ :: ops) Q σ := by
  have h1 := (mfind_M (x := x) (y := y) M).2.2
  have h2 := mentry_M (x := x) (y := y) M
  have hd : ∀ call, delta Γ call d (kill l1 (only l3 σ)) (.ment 1 [.int .i64 0] [.int .i8, .int .i8] m k) = some { v := .tup [.dead, .d (.s (.int .i64 (idxM M (x, y) : Nat)))], puts := [(o, .map KC (encM (entM M (x, y))))] } := fun call => by
    simp [delta, hm, ho, hk, cellsA, hasKs, hasK, h1, h2]
  refine WH.cons ⟨0, stepH_dl hw (hd _) (by simp only [within, List.all_cons, List.all_nil, hi]; rfl) rfl⟩ ?_
  simp only [applyD, hideD, insertAll, List.map_cons, List.map_nil, killO, killV, deadA, kill_nil]
  exact K
theorem WH.mest {m s v : Opd} {o j : Nat} {n : Int} {M : List (Cel × Int)} (hw : wanted dsts (kill l1 (only l3 σ)).env g = some true) (hm : ev (kill l1 (only l3 σ)).env m = .a (.mp o)) (ho : (kill l1 (only l3 σ)).objs o = some (.map KC (encM M))) (hs : ev (kill l1 (only l3 σ)).env s = .a (.d (.s (.int .i64 (j : Nat))))) (hv : ev (kill l1 (only l3 σ)).env v = .a (.d (.s (.int .i64 n)))) (hj : j < M.length) (hi : l2.contains o = true)
    (K : WH Γ dsts ops Q (put o (.map KC (encM (stoM j n M))) σ)) : WH Γ dsts (⟨none, .mest 1 m s v, g, l1, l2, l3, l4⟩ :: ops) Q σ := by
  have h2 := mstore_M (j := j) (n := n) M
  have hd : ∀ call, delta Γ call none (kill l1 (only l3 σ)) (.mest 1 m s v) = some { v := .undef, puts := [(o, .map KC (encM (stoM j n M)))] } := fun call => by
    simp [delta, hm, ho, hs, hv, cellsA, encM_len, hj, h2]
  refine WH.cons ⟨0, stepH_dl hw (hd _) (by simp only [within, List.all_cons, List.all_nil, hi]; rfl) rfl⟩ ?_
  simp only [applyD, hideD, insertAll, List.map_cons, List.map_nil, killO, killV, deadA, kill_nil]
  exact K
end
end Go.DM

/- A mole's night: the reference's side gives the same. -/
set_option linter.unusedSimpArgs false
set_option linter.unusedVariables false
set_option maxHeartbeats 4000000
namespace Go.DM
set_option linter.unusedSectionVars false
variable [Tok]
open Go.IntWalk
variable {w h : Int} {g : Nat → Int} {cs : List S} {q : Nat → Int} {qs : List S}

def roundP (w h : Int) (g : Nat → Int) (b : Cel) (r : Nat) (c : Cel) : Prop := Is w h g 0 c.1 c.2 ∧ ¬ (r = 0 ∧ c.1 = b.1 ∧ c.2 = b.2)
instance (w h : Int) (g : Nat → Int) (b : Cel) (r : Nat) : DecidablePred (roundP w h g b r) := fun c => inferInstanceAs (Decidable (_ ∧ _))
def seen (w h : Int) (g q : Nat → Int) (a b : Cel) (r i : Nat) : List Cel := ((inside w h (Near a.1 a.2)).take i).filter fun c => decide (roundP w h g b r c)
end Go.DM

/- Some nights, the night of a trap: the reference's side. -/
set_option linter.unusedSimpArgs false
set_option linter.unusedVariables false
set_option maxHeartbeats 4000000
namespace Go.DM
set_option linter.unusedSectionVars false
variable [Tok]
open Go.IntWalk
variable {w h : Int} {g : Nat → Int} {cs : List S} {q : Nat → Int} {qs : List S}

end Go.DM

/- What the statements do with rows of cells and of numbers: they are compared, marked, and looked at again. -/
set_option linter.unusedSimpArgs false
set_option linter.unusedVariables false
set_option maxHeartbeats 4000000
namespace Go.DM
set_option linter.unusedSectionVars false
variable [Tok]
open Go.IntWalk

def marks (k : Int) (n : Nat) : List Cel := (List.range n).map fun (i : Nat) => (IntKind.i8.wrap (k + 2 * (i : Nat)), IntKind.i8.wrap (k + 2 * (i : Nat) + 1))
end Go.DM

/- Some nights of a mole: the program's side, the statement. -/
set_option linter.unusedSimpArgs false
set_option linter.unusedVariables false
set_option maxHeartbeats 4000000
namespace Go.DM
set_option linter.unusedSectionVars false
variable [Tok]
open Go.IntWalk
variable {w h : Int} {g : Nat → Int} {cs : List S} {q : Nat → Int} {qs : List S}

end Go.DM

/- The cell with the greatest number: counting, both sides. -/
set_option linter.unusedSimpArgs false
set_option linter.unusedVariables false
set_option maxHeartbeats 4000000
namespace Go.DM
set_option linter.unusedSectionVars false
variable [Tok]
open Go.IntWalk
variable {w h : Int} {g : Nat → Int} {cs : List S} {q : Nat → Int} {qs : List S}
end Go.DM

/- The cell at which a mole is most often: both sides, the statement. -/
set_option linter.unusedSimpArgs false
set_option linter.unusedVariables false
set_option maxHeartbeats 4000000
namespace Go.DM
set_option linter.unusedSectionVars false
variable [Tok]
open Go.IntWalk
variable {w h : Int} {g : Nat → Int} {cs : List S} {q : Nat → Int} {qs : List S}
end Go.DM

/- The best trap: counting, codes. -/
set_option linter.unusedSimpArgs false
set_option linter.unusedVariables false
set_option maxHeartbeats 4000000
namespace Go.DM
set_option linter.unusedSectionVars false
variable [Tok]
open Go.IntWalk
variable {w h : Int} {g : Nat → Int} {cs : List S} {q : Nat → Int} {qs : List S}
/-! Codes with no cells. -/
theorem contains_gives (L : List Cel) (hl : L.length ≤ 1000) (x y : Int) : Gives G 83 [asl L, ac x y] (rb (decide ((x, y) ∈ L))) := by
  have h1 := index_gives L hl x y
  have hs := idxOf_nonneg (fun c => x = c.1 ∧ y = c.2) L 0 (by omega)
  have hi : (∃ c ∈ L, x = c.1 ∧ y = c.2) ↔ (x, y) ∈ L := by
    constructor
    · rintro ⟨c, hc, h1, h2⟩
      rw [show (x, y) = c from Prod.ext h1 h2]; exact hc
    · exact fun h => ⟨_, h, rfl, rfl⟩
  refine Gives.by rfl rfl (W.seq ?_)
  by_cases hm : (x, y) ∈ L
  · have h2 := hs.2 (hi.2 hm)
    rw [decide_eq_true hm]
    repeat' first | ((with_reducible apply WR.c_s (f := 27) (fn := Code.f27)); exact rfl; exact rfl; exact rfl; (first | exact rfl); (focus ((repeat' first | exact args_nil | apply args_d | exact toD_d rfl | exact all_nil | apply all_cons | exact rfl); done)); exact h1) | ((with_reducible apply WR.mv); exact rfl; exact rfl) | ((with_reducible apply WR.nil)) | (with_reducible refine andThen_n ?_) | (with_reducible refine W.seq ?_) | (with_reducible refine W.region ?_) | (with_reducible refine W.ret ?_) | ((with_reducible apply Done.f); (intro hh hh2; exact (nomatch hh2)); (focus ((repeat' first | exact all_nil | apply all_cons | exact res_tmp rfl | exact rfl); done)); (focus ((repeat' first | exact all_nil | apply all_cons | exact retOf_s rfl | exact rfl); done)); exact rfl; (focus ((repeat' first | exact outs_nil | apply outs_d | exact rfl); done))) | (intro hb; try (exfalso; omega)) | ((with_reducible apply WR.geq); exact rfl; exact rfl; exact rfl) | ((with_reducible apply WR.bx); exact rfl; exact rfl; exact (by first | exact rfl); (first | exact rfl)) | ((with_reducible apply WR.ld); exact rfl; exact rfl; exact rfl; (first | exact ld2))
    all_goals first
      | rfl
      | (exfalso; exact absurd h2 (by assumption))
  · have h2 : ¬ 0 ≤ idxOf (fun c => x = c.1 ∧ y = c.2) L 0 := fun hh => hm (hi.1 (hs.1 hh))
    rw [decide_eq_false hm]
    repeat' first | ((with_reducible apply WR.c_s (f := 27) (fn := Code.f27)); exact rfl; exact rfl; exact rfl; (first | exact rfl); (focus ((repeat' first | exact args_nil | apply args_d | exact toD_d rfl | exact all_nil | apply all_cons | exact rfl); done)); exact h1) | ((with_reducible apply WR.mv); exact rfl; exact rfl) | ((with_reducible apply WR.nil)) | (with_reducible refine andThen_n ?_) | (with_reducible refine W.seq ?_) | (with_reducible refine W.region ?_) | (with_reducible refine W.ret ?_) | ((with_reducible apply Done.f); (intro hh hh2; exact (nomatch hh2)); (focus ((repeat' first | exact all_nil | apply all_cons | exact res_tmp rfl | exact rfl); done)); (focus ((repeat' first | exact all_nil | apply all_cons | exact retOf_s rfl | exact rfl); done)); exact rfl; (focus ((repeat' first | exact outs_nil | apply outs_d | exact rfl); done))) | (intro hb; try (exfalso; omega)) | ((with_reducible apply WR.geq); exact rfl; exact rfl; exact rfl) | ((with_reducible apply WR.bx); exact rfl; exact rfl; exact (by first | exact rfl); (first | exact rfl)) | ((with_reducible apply WR.ld); exact rfl; exact rfl; exact rfl; (first | exact ld2))
    all_goals first
      | rfl
      | (exfalso; exact h2 (by assumption))
end Go.DM
