/- The reference's code of cells that have to be open. -/
import Derived.Test.YtppmmeciihmnjaaDoorK280Those
set_option linter.unusedSimpArgs false
set_option linter.unusedVariables false
set_option maxHeartbeats 4000000
namespace Go.DM
open Go.IntWalk
variable {w h : Int} {g : Nat → Int} {cs : List S}
theorem all_snoc {p : Cel → Prop} {L : List Cel} {i : Nat} (hi : i < L.length) : (∀ c ∈ L.take (i + 1), p c) ↔ (∀ c ∈ L.take i, p c) ∧ p (gC L i) := by
  rw [List.take_add_one, gC_get hi]
  simp only [Option.toList_some, List.mem_append, List.mem_singleton]
  constructor
  · intro h; exact ⟨fun c hc => h c (.inl hc), h _ (.inr rfl)⟩
  · rintro ⟨h1, h2⟩ c (hc | rfl)
    · exact h1 c hc
    · exact h2
theorem bstep_t {b : Bool} {A A' p : Prop} (h1 : b = true ↔ A) (h2 : A' ↔ A ∧ p) (hb : b = true) (hp : p) : true = true ↔ A' := ⟨fun _ => h2.2 ⟨h1.1 hb, hp⟩, fun _ => rfl⟩
theorem bstep_f {b : Bool} {A A' p : Prop} (h1 : b = true ↔ A) (h2 : A' ↔ A ∧ p) (hn : b = false ∨ ¬ p) : false = true ↔ A' := ⟨fun h => (nomatch h), fun h => by
  have h3 := h2.1 h
  rcases hn with hn | hn
  · have := h1.2 h3.1; rw [hn] at this; exact this
  · exact absurd h3.2 hn⟩
abbrev InB (c : Cel) : Prop := -128 ≤ c.1 ∧ c.1 ≤ 127 ∧ -128 ≤ c.2 ∧ c.2 ≤ 127
theorem l04Told_gives (l : IsLawn w h g cs) (ls : List Cel) (hl : ls.length ≤ 1000) (b : Bool) (hx : ∀ c ∈ ls, InB c) : Gives G 35 [ar cs, asl ls, ab b] (ri .i64 (belowCode (LawnOk w h g) (b = true ∧ ∀ c ∈ ls, Has w h c.1 c.2) (∀ c ∈ ls, Opn w h g c.1 c.2))) := by
  refine Gives.by rfl rfl (W.seq ?_)
  repeat' first | ((with_reducible apply WR.c_p (f := 28) (fn := Code.f28)); exact rfl; exact rfl; exact rfl; (first | exact rfl); (focus ((repeat' first | exact args_nil | apply args_d | exact toD_d rfl | exact all_nil | apply all_cons | exact rfl); done)); exact l01Ok_gives (by assumption)) | ((with_reducible apply WR.mv); exact rfl; exact rfl) | ((with_reducible apply WR.un); exact rfl; exact rfl) | ((with_reducible apply WR.nil)) | (with_reducible refine andThen_n ?_) | (with_reducible refine andThen_r ?_) | (with_reducible refine W.seq ?_) | (with_reducible refine W.region ?_) | (with_reducible refine W.skip ?_) | (with_reducible refine W.ret ?_) | (with_reducible refine W.block ?_) | ((with_reducible apply W.condT); exact rfl) | ((with_reducible apply W.condF); exact rfl) | ((with_reducible apply Done.f); (intro hh hh2; exact (nomatch hh2)); (focus ((repeat' first | exact all_nil | apply all_cons | exact res_tmp rfl | exact rfl); done)); (focus ((repeat' first | exact all_nil | apply all_cons | exact retOf_s rfl | exact rfl); done)); exact rfl; (focus ((repeat' first | exact outs_nil | apply outs_d | exact rfl); done))) | (intro hb; try (exfalso; omega))
  · have hL : LawnOk w h g := by assumption
    (refine W.loopM [0, 1] [] [] (fun zz : (Nat) × (Bool) => match zz with | (i, c) => (ls.length - i : Nat)) (fun zz : (Nat) × (Bool) => match zz with | (i, c) => (i ≤ ls.length ∧ (c = true ↔ (b = true ∧ ∀ c ∈ ls.take i, Has w h c.1 c.2)) : Prop)) (fun zz : (Nat) × (Bool) => match zz with | (i, c) => [(7, .a (.d (.s (.int .i64 (i : Nat))))), (2, .a (.d (.s (.bool c))))]) (fun zz : (Nat) × (Bool) => match zz with | (i, c) => []) (0, b) (⟨by omega, by simp⟩) ⟨rfl, rfl, trivial⟩ trivial trivial ?_)
    rintro ⟨i, c⟩ σ hP hN; dsimp only [setL, putL] at hP ⊢
    obtain ⟨hi, hc⟩ := hP
    by_cases hil : i < ls.length
    · have hb1 := hx _ (gC_mem hil)
      have h3 : (b = true ∧ ∀ c ∈ ls.take (i + 1), Has w h c.1 c.2) ↔ (b = true ∧ ∀ c ∈ ls.take i, Has w h c.1 c.2) ∧ Has w h (gC ls i).1 (gC ls i).2 := by rw [all_snoc hil, and_assoc]
      cases c
      all_goals
        repeat' first | ((with_reducible apply WR.c_p (f := 50) (fn := Code.f50)); exact rfl; exact rfl; exact rfl; (first | exact rfl); (focus ((repeat' first | exact args_nil | apply args_d | exact toD_d rfl | exact rfl); done)); exact l01Is_gives (by assumption) _ _ (by omega)) | ((with_reducible apply WR.mv); exact rfl; exact rfl) | ((with_reducible apply WR.off); exact rfl) | ((with_reducible apply WR.nil)) | (with_reducible refine andThen_n ?_) | (with_reducible refine inB_n ?_) | (with_reducible refine W.seq ?_) | (with_reducible refine W.region ?_) | (with_reducible refine W.skip ?_) | (with_reducible refine W.block ?_) | ((with_reducible apply W.condT); exact rfl) | (intro hb; try (exfalso; omega)) | ((with_reducible apply WR.lss); exact rfl; exact rfl; exact rfl) | ((with_reducible apply WR.ad); exact rfl; exact rfl; exact rfl; (first | exact i64_in _ (by omega))) | ((with_reducible apply WR.idn); exact rfl; exact rfl; exact rfl; omega; (first | exact Nat.le_of_eq (encC_length _).symm)) | ((with_reducible apply WR.ldd); exact rfl; exact rfl; (first | exact ldCd (by first | omega))) | ((with_reducible apply WR.le); exact rfl; exact rfl) | ((with_reducible apply WR.pk); exact rfl; exact rfl)
      all_goals first
        | ((refine W.nxt (i + 1, true) (by first | omega | (dsimp only; omega)) ?_ ⟨rfl, rfl, trivial⟩ trivial ⟨rfl, rfl, trivial⟩ trivial trivial); (try dsimp only)
           exact ⟨by omega, bstep_t hc h3 rfl (by assumption)⟩)
        | ((refine W.nxt (i + 1, false) (by first | omega | (dsimp only; omega)) ?_ ⟨rfl, rfl, trivial⟩ trivial ⟨rfl, rfl, trivial⟩ trivial trivial); (try dsimp only)
           exact ⟨by omega, bstep_f hc h3 (by first | exact .inl rfl | exact .inr (by assumption))⟩)
    · rw [show ls.take i = ls from List.take_of_length_le (by omega)] at hc
      cases c
      all_goals
        repeat' first | ((with_reducible apply WR.mv); exact rfl; exact rfl) | ((with_reducible apply WR.un); exact rfl; exact rfl) | ((with_reducible apply WR.nil)) | (with_reducible refine andThen_n ?_) | (with_reducible refine andThen_x ?_) | (with_reducible refine andThen_r ?_) | (with_reducible refine inB_x ?_) | (with_reducible refine W.seq ?_) | (with_reducible refine W.region ?_) | (with_reducible refine W.skip ?_) | (with_reducible refine W.ret ?_) | (with_reducible refine W.exit ?_) | (with_reducible refine W.block ?_) | ((with_reducible apply W.condT); exact rfl) | ((with_reducible apply W.condF); exact rfl) | ((with_reducible apply Done.f); (intro hh hh2; exact (nomatch hh2)); (focus ((repeat' first | exact all_nil | apply all_cons | exact res_tmp rfl); done)); (focus ((repeat' first | exact all_nil | apply all_cons | exact retOf_s rfl); done)); exact rfl; (focus ((repeat' first | exact outs_nil | apply outs_d); done))) | (intro hb; try (exfalso; omega)) | ((with_reducible apply WR.lss); exact rfl; exact rfl; exact rfl) | ((with_reducible apply WR.le); exact rfl; exact rfl)
      · exact bc2 hL (fun hh => by simpa using hc.2 hh)
      · have hf := hc.1 rfl
        clear hc hil hi hN
        (refine W.loopM [0, 1] [] [] (fun j : (Nat) => (ls.length - j : Nat)) (fun j : (Nat) => (j ≤ ls.length ∧ ∀ c ∈ ls.take j, Opn w h g c.1 c.2 : Prop)) (fun j : (Nat) => [(8, .a (.d (.s (.int .i64 (j : Nat)))))]) (fun j : (Nat) => []) 0 (⟨by omega, by simp⟩) ⟨rfl, trivial⟩ trivial trivial ?_)
        rintro j σ hP hN; dsimp only [setL, putL] at hP ⊢
        obtain ⟨hj, ho⟩ := hP
        by_cases hjl : j < ls.length
        · have hH := hf.2 _ (gC_mem hjl)
          have hLw := hL.1
          have hLh := hL.2.1
          repeat' first | ((with_reducible apply WR.c_p (f := 72) (fn := Code.f72)); exact rfl; exact rfl; exact rfl; (first | exact rfl); (focus ((repeat' first | exact args_nil | apply args_d | exact toD_d rfl | exact all_nil | apply all_cons | exact rfl); done)); exact l01Open_gives (by assumption) _ _ (by omega)) | ((with_reducible apply WR.mv); exact rfl; exact rfl) | ((with_reducible apply WR.un); exact rfl; exact rfl) | ((with_reducible apply WR.nil)) | (with_reducible refine andThen_n ?_) | (with_reducible refine andThen_r ?_) | (with_reducible refine inB_n ?_) | (with_reducible refine inB_r ?_) | (with_reducible refine W.seq ?_) | (with_reducible refine W.region ?_) | (with_reducible refine W.skip ?_) | (with_reducible refine W.ret ?_) | (with_reducible refine W.block ?_) | ((with_reducible apply W.condT); exact rfl) | ((with_reducible apply W.condF); exact rfl) | ((with_reducible apply Done.f); (intro hh hh2; exact (nomatch hh2)); (focus ((repeat' first | exact all_nil | apply all_cons | exact res_tmp rfl | exact rfl); done)); (focus ((repeat' first | exact all_nil | apply all_cons | exact retOf_s rfl | exact rfl); done)); exact rfl; (focus ((repeat' first | exact outs_nil | apply outs_d | exact rfl); done))) | (intro hb; try (exfalso; omega)) | ((with_reducible apply WR.lss); exact rfl; exact rfl; exact rfl) | ((with_reducible apply WR.ad); exact rfl; exact rfl; exact rfl; (first | exact i64_in _ (by omega))) | ((with_reducible apply WR.idn); exact rfl; exact rfl; exact rfl; omega; (first | exact Nat.le_of_eq (encC_length _).symm)) | ((with_reducible apply WR.ldd); exact rfl; exact rfl; (first | exact ldCd (by first | omega))) | ((with_reducible apply WR.le); exact rfl; exact rfl)
          · (refine W.nxt (j + 1) (by first | omega | (dsimp only; omega)) ?_ ⟨rfl, trivial⟩ trivial ⟨rfl, rfl, trivial⟩ trivial trivial); (try dsimp only)
            exact ⟨by omega, (all_snoc hjl).2 ⟨ho, hH, by assumption⟩⟩
          · exact bc4 hL hf (fun hh => absurd (hh _ (gC_mem hjl)).2 (by assumption))
        · rw [show ls.take j = ls from List.take_of_length_le (by omega)] at ho
          repeat' first | ((with_reducible apply WR.mv); exact rfl; exact rfl) | ((with_reducible apply WR.nil)) | (with_reducible refine andThen_n ?_) | (with_reducible refine andThen_x ?_) | (with_reducible refine inB_x ?_) | (with_reducible refine W.seq ?_) | (with_reducible refine W.region ?_) | (with_reducible refine W.ret ?_) | (with_reducible refine W.exit ?_) | ((with_reducible apply W.condF); exact rfl) | ((with_reducible apply Done.f); (intro hh hh2; exact (nomatch hh2)); (focus ((repeat' first | exact all_nil | apply all_cons | exact res_tmp rfl); done)); (focus ((repeat' first | exact all_nil | apply all_cons | exact retOf_s rfl); done)); exact rfl; (focus ((repeat' first | exact outs_nil | apply outs_d); done))) | (intro hb; try (exfalso; omega)) | ((with_reducible apply WR.lss); exact rfl; exact rfl; exact rfl) | ((with_reducible apply WR.le); exact rfl; exact rfl)
          exact bc0 hL hf ho
  · exact bc1 (by assumption)
end Go.DM

/- NightOf: the program's side. -/
set_option linter.unusedSimpArgs false
set_option linter.unusedVariables false
namespace Go.DM
open Go.IntWalk
variable {w h : Int} {g : Nat → Int} {cs : List S} {q : Nat → Int} {qs : List S}

section
variable {Γ : Nat → Option Fn} {dsts : Nat → Option Nat} {ops : List Oper} {Q : St → Prop} {σ : St} {d : Option Nat} {gd : Option (Nat × Bool)} {l1 l2 l3 l4 : List Nat}
theorem WH.s2 {es p off n l h : Nat} {a : Opd} {lo hi : Option Opd} (hw : wanted dsts (kill l1 (only l3 σ)).env gd = some true) (ha : ev (kill l1 (only l3 σ)).env a = .a (.sl p off n es)) (hl : bound (lo.map (ev (kill l1 (only l3 σ)).env)) 0 = some l) (hh : bound (hi.map (ev (kill l1 (only l3 σ)).env)) n = some h) (hb : l ≤ h ∧ h ≤ n)
    (hv : killV l1 (.a (.sl p (off + l * es) (h - l) es)) = .a (.sl p (off + l * es) (h - l) es)) (K : WH Γ dsts ops Q (set d (.a (.sl p (off + l * es) (h - l) es)) σ)) : WH Γ dsts (⟨d, .slc (.sl es) a lo hi, gd, l1, l2, l3, l4⟩ :: ops) Q σ :=
  WH.q hw (by simp only [veil, quiet, ha, slc, hl, hh, Option.bind_some]; rw [if_pos ⟨hb.1, hb.2, trivial⟩]) hv K
end
/-- A slice behind its first cell, and a cell, handed to a call. -/
theorem args_tail {σ : St} {p n : Nat} {l : List Cel} {x : D} (hn : n + 1 = l.length) (h : σ.objs p = some (.flat false (encC l))) : args σ [] [] [.a (.sl p (0 + 1 * 2) n 2), .a (.d x)] = some [asl (l.drop 1), .d x] := by
  have hl := encC_length l
  have e : ((encC l).drop (0 + 1 * 2)).take (n * 2) = encC (l.drop 1) := by
    rw [show 0 + 1 * 2 = 1 * 2 from rfl, encC_dr, List.take_of_length_le]
    rw [encC_length, List.length_drop]; omega
  have h1 : toDV (fun o => if ([] : List Nat).contains o then none else σ.objs o) depth (.a (.sl p (0 + 1 * 2) n 2)) = some (.sl (l.drop 1).length 2 (encC (l.drop 1))) := by
    show toDA _ _ _ = _
    simp only [toDA, List.contains_nil, Bool.false_eq_true, if_false, h]
    rw [if_pos (by omega), e, show n = (l.drop 1).length by rw [List.length_drop]; omega]
  simp only [args]
  rw [h1]
  rfl

theorem belowCode_congr {a b c a' b' c' : Prop} {d1 : Decidable a} {d2 : Decidable b} {d3 : Decidable c} {e1 : Decidable a'} {e2 : Decidable b'} {e3 : Decidable c'} (h1 : a ↔ a') (h2 : b ↔ b') (h3 : c ↔ c') : belowCode a b c = belowCode a' b' c' := by
  unfold belowCode
  by_cases k1 : a <;> by_cases k2 : b <;> by_cases k3 : c <;> simp [k1, k2, k3, ← h1, ← h2, ← h3]
def nightRes (code i : Int) : Res := if code = 0 then (if i < 0 then ⟨[.s (.int .i64 0), .s (.int .i64 6)], []⟩ else ⟨[.s (.int .i64 (i + 1)), .s (.int .i64 0)], []⟩) else ⟨[.s (.int .i64 0), .s (.int .i64 code)], []⟩
def nightCode (w h : Int) (g q : Nat → Int) (a b : Cel) : Int := belowCode (LevOk w h g q) (Has w h a.1 a.2 ∧ Has w h b.1 b.2) (Is w h g 0 a.1 a.2 ∧ Is w h g 0 b.1 b.2)
def nightIdx (w h : Int) (g q : Nat → Int) (qs : List S) (a b : Cel) : Int := idxOf (fun c => b.1 = c.1 ∧ b.2 = c.2) (((Mole.mk q qs a a).path w h g 60).drop 1) 0

end Go.DM
