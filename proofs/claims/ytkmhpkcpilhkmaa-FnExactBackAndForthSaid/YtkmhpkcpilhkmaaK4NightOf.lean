/- NightOf: the program's side. -/
import Derived.Test.YtkmhpkcpilhkmaaK4Nights
set_option linter.unusedSimpArgs false
set_option linter.unusedVariables false
namespace Go.DM
open Go.IntWalk
variable {w h : Int} {g : Nat → Int} {cs : List S} {q : Nat → Int} {qs : List S}

section
variable {Γ : Nat → Option Fn} {dsts : Nat → Option Nat} {ops : List Oper} {Q : St → Prop} {σ : St} {d : Option Nat} {gd : Option (Nat × Bool)} {l1 l2 l3 l4 : List Nat}
theorem WH.s2 {es p off n l h : Nat} {a : Opd} {lo hi : Option Opd} (hw : wanted dsts (kill l1 (only l3 σ)).env gd = some true) (ha : ev (kill l1 (only l3 σ)).env a = .a (.sl p off n es)) (hl : bound (lo.map (ev (kill l1 (only l3 σ)).env)) 0 = some l) (hh : bound (hi.map (ev (kill l1 (only l3 σ)).env)) n = some h) (hb : l ≤ h ∧ h ≤ n)
    (hv : killV l1 (.a (.sl p (off + l * es) (h - l) es)) = .a (.sl p (off + l * es) (h - l) es)) (K : WH Γ dsts ops Q (set d (.a (.sl p (off + l * es) (h - l) es)) σ)) : WH Γ dsts (⟨d, .slc (.sl es) a lo hi, gd, l1, l2, l3, l4⟩ :: ops) Q σ :=
  WH.q hw (by simp only [veil, quiet, ha, slc, hl, hh, Option.bind_some]; rw [if_pos ⟨hb.1, hb.2, trivial⟩]) hv K
end
/-- A slice behind its first cell, and a cell, handed to a call. -/
theorem args_tail {σ : St} {p n : Nat} {l : List Cel} {x : D} (hn : n + 1 = l.length) (h : σ.objs p = some (.flat false (encC l))) : args σ [] [] [.a (.sl p (0 + 1 * 2) n 2), .a (.d x)] = some [asl (l.drop 1), .d x] := by
  have hl := encC_length l
  have e : ((encC l).drop (0 + 1 * 2)).take (n * 2) = encC (l.drop 1) := by
    rw [show 0 + 1 * 2 = 1 * 2 from rfl, encC_dr, List.take_of_length_le]
    rw [encC_length, List.length_drop]; omega
  have h1 : toDV (fun o => if ([] : List Nat).contains o then none else σ.objs o) depth (.a (.sl p (0 + 1 * 2) n 2)) = some (.sl (l.drop 1).length 2 (encC (l.drop 1))) := by
    show toDA _ _ _ = _
    simp only [toDA, List.contains_nil, Bool.false_eq_true, if_false, h]
    rw [if_pos (by omega), e, show n = (l.drop 1).length by rw [List.length_drop]; omega]
  simp only [args]
  rw [h1]
  rfl

theorem belowCode_congr {a b c a' b' c' : Prop} {d1 : Decidable a} {d2 : Decidable b} {d3 : Decidable c} {e1 : Decidable a'} {e2 : Decidable b'} {e3 : Decidable c'} (h1 : a ↔ a') (h2 : b ↔ b') (h3 : c ↔ c') : belowCode a b c = belowCode a' b' c' := by
  unfold belowCode
  by_cases k1 : a <;> by_cases k2 : b <;> by_cases k3 : c <;> simp [k1, k2, k3, ← h1, ← h2, ← h3]
def nightRes (code i : Int) : Res := if code = 0 then (if i < 0 then ⟨[.s (.int .i64 0), .s (.int .i64 6)], []⟩ else ⟨[.s (.int .i64 (i + 1)), .s (.int .i64 0)], []⟩) else ⟨[.s (.int .i64 0), .s (.int .i64 code)], []⟩
def nightCode (w h : Int) (g q : Nat → Int) (a b : Cel) : Int := belowCode (LevOk w h g q) (Has w h a.1 a.2 ∧ Has w h b.1 b.2) (Is w h g 0 a.1 a.2 ∧ Is w h g 0 b.1 b.2)
def nightIdx (w h : Int) (g q : Nat → Int) (qs : List S) (a b : Cel) : Int := idxOf (fun c => b.1 = c.1 ∧ b.2 = c.2) (((Mole.mk q qs a a).path w h g 60).drop 1) 0

theorem nightOf_gives (l : IsLawn w h g cs) (v : IsLev q qs) (a b : Cel) : Gives G 12 [aa cs, aa qs, ac a.1 a.2, ac b.1 b.2] (nightRes (nightCode w h g q a b) (nightIdx w h g q qs a b)) := by
  have hcode : belowCode (LevOk w h g q) ((∀ c ∈ [a, b], Has w h c.1 c.2) ∧ 0 ≤ (0 : Int) ∧ (0 : Int) ≤ 60) (∀ c ∈ [a, b], Is w h g 0 c.1 c.2) = nightCode w h g q a b :=
    belowCode_congr Iff.rfl (by simp) (by simp)
  have hmc := moleCode_gives (n := 0) l v [a, b] (by simp)
  rw [hcode] at hmc
  refine Gives.by rfl rfl (W.seq ?_)
  repeat' first | ((with_reducible apply WR.cs); exact rfl; exact rfl; exact rfl; exact rfl; exact hmc; exact rfl) | ((with_reducible apply WR.mv); exact rfl; exact rfl) | ((with_reducible apply WR.ld); exact rfl; exact rfl; exact rfl; (first | exact loadC_all (IsLawn.len (by assumption)) | exact loadC_all (IsLev.len (by assumption)))) | ((with_reducible apply WR.lx); exact rfl; exact rfl) | ((with_reducible apply WR.bx); exact rfl; exact rfl; exact IsLawn.len (by assumption); (first | exact rfl)) | ((with_reducible apply WR.bx); exact rfl; exact rfl; exact IsLev.len (by assumption); (first | exact rfl)) | ((with_reducible apply WR.bo); exact rfl; exact rfl; (first | exact rfl)) | ((with_reducible apply WR.nil)) | (with_reducible refine andThen_n ?_) | (with_reducible refine andThen_r ?_) | (with_reducible refine W.seq ?_) | (with_reducible refine W.region ?_) | (with_reducible refine W.skip ?_) | (with_reducible refine W.ret ?_) | ((with_reducible apply W.condT); exact rfl) | ((with_reducible apply W.condF); exact rfl) | ((with_reducible apply Done.r); exact rfl) | (intro hb; try (exfalso; omega)) | ((with_reducible apply WR.neq); exact rfl; exact rfl; exact rfl) | ((with_reducible apply WR.bs); exact rfl; exact rfl; (first | exact rfl))
  · have hne : ¬ nightCode w h g q a b = 0 := by assumption
    unfold nightRes
    rw [if_neg hne]; rfl
  · have h0 : nightCode w h g q a b = 0 := by omega
    obtain ⟨k1, k2, k3⟩ := belowCode_zero.1 h0
    have hs : w ≤ 10 ∧ h ≤ 10 := ⟨k1.1.1.2, k1.1.2.1.2⟩
    have ha : 0 ≤ a.1 ∧ a.1 < 10 ∧ 0 ≤ a.2 ∧ a.2 < 10 := by simp only [Has] at k2; omega
    (with_reducible apply WR.call); exact rfl; exact rfl; exact rfl; exact rfl; exact rfl; exact rfl; exact nights_gives l hs v a ha 60 (by omega); exact rfl; exact rfl; exact rfl; exact rfl
    have k0 : (Mole.mk q qs a a).Ok := ⟨v, ha⟩
    have kv := (k0.after (g := g) hs 60).v
    have hpl := (Mole.mk q qs a a).path_length (w := w) (h := h) (g := g) 60
    have hi : nightIdx w h g q qs a b = idxOf (fun c => b.1 = c.1 ∧ b.2 = c.2) (((Mole.mk q qs a a).path w h g 60).drop 1) 0 := rfl
    have hix := idxOf_spec (fun c => b.1 = c.1 ∧ b.2 = c.2) (((Mole.mk q qs a a).path w h g 60).drop 1) 0 (by omega)
    have hixb : -1 ≤ nightIdx w h g q qs a b ∧ nightIdx w h g q qs a b ≤ 60 := by
      rw [hi]
      rcases hix with ⟨e, _⟩ | ⟨k, c, e, hc, _⟩
      · rw [e]; omega
      · have := (List.getElem?_eq_some_iff.1 hc).1
        rw [List.length_drop, hpl] at this
        rw [e]; omega
    clear hix
    generalize (Mole.mk q qs a a).path w h g 60 = pth at hpl hi ⊢
    generalize ((Mole.mk q qs a a).after w h g 60) = mm at kv ⊢
    repeat' first | ((with_reducible apply WR.mvt); exact rfl; exact rfl) | ((with_reducible apply WR.ex); exact rfl; exact rfl) | ((with_reducible apply WR.al); exact rfl; (first | exact rfl))
    (with_reducible apply WR.st); exact rfl; exact rfl; exact rfl; exact storeAll kv.len rfl
    repeat' first | ((with_reducible apply WR.mv); exact rfl; exact rfl) | ((with_reducible apply WR.nil)) | (with_reducible refine andThen_n ?_) | (with_reducible refine W.seq ?_) | (with_reducible refine W.draw ?_) | ((with_reducible apply WH.mv); exact rfl; exact rfl; exact rfl)
    (with_reducible apply WH.s2); exact rfl; exact rfl; exact rfl; exact rfl; exact ⟨by rw [hpl]; decide, Nat.le_refl _⟩; exact rfl
    repeat' first | ((with_reducible apply WH.lx); exact rfl; exact rfl; exact rfl)
    (with_reducible apply WH.cs); exact rfl; exact rfl; exact rfl; exact args_tail (by rw [hpl]; rfl) rfl; exact index_gives (pth.drop 1) (by rw [List.length_drop, hpl]; decide) _ _; exact rfl
    rw [← hi]
    generalize nightIdx w h g q qs a b = ix at hixb ⊢
    repeat' first | ((with_reducible apply WR.mv); exact rfl; exact rfl) | ((with_reducible apply WR.nil)) | (with_reducible refine andThen_n ?_) | (with_reducible refine andThen_r ?_) | (with_reducible refine W.seq ?_) | (with_reducible refine W.region ?_) | (with_reducible refine W.skip ?_) | (with_reducible refine W.ret ?_) | ((with_reducible apply W.condT); exact rfl) | ((with_reducible apply W.condF); exact rfl) | ((with_reducible apply Done.r); exact rfl) | ((with_reducible apply WH.nil)) | (intro hb; try (exfalso; omega)) | ((with_reducible apply WH.mv); exact rfl; exact rfl; exact rfl) | ((with_reducible apply WR.lss); exact rfl; exact rfl; exact rfl) | ((with_reducible apply WR.ad); exact rfl; exact rfl; exact rfl; (first | exact i64_in _ (by omega)))
    · have hneg : ix < 0 := by assumption
      unfold nightRes
      rw [if_pos h0, if_pos hneg]; rfl
    · have hneg : ¬ ix < 0 := by assumption
      unfold nightRes
      rw [if_pos h0, if_neg hneg]; rfl
end Go.DM
