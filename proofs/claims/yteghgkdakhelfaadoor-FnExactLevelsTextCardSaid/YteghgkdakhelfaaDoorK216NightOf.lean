/- NightOf: the program's side. -/
import Derived.Test.YteghgkdakhelfaaDoorK216Beside
set_option linter.unusedSimpArgs false
set_option linter.unusedVariables false
namespace Go.DM
open Go.IntWalk
variable {w h : Int} {g : Nat → Int} {cs : List S} {q : Nat → Int} {qs : List S}

section
variable {Γ : Nat → Option Fn} {dsts : Nat → Option Nat} {ops : List Oper} {Q : St → Prop} {σ : St} {d : Option Nat} {gd : Option (Nat × Bool)} {l1 l2 l3 l4 : List Nat}
theorem WH.s2 {es p off n l h : Nat} {a : Opd} {lo hi : Option Opd} (hw : wanted dsts (kill l1 (only l3 σ)).env gd = some true) (ha : ev (kill l1 (only l3 σ)).env a = .a (.sl p off n es)) (hl : bound (lo.map (ev (kill l1 (only l3 σ)).env)) 0 = some l) (hh : bound (hi.map (ev (kill l1 (only l3 σ)).env)) n = some h) (hb : l ≤ h ∧ h ≤ n)
    (hv : killV l1 (.a (.sl p (off + l * es) (h - l) es)) = .a (.sl p (off + l * es) (h - l) es)) (K : WH Γ dsts ops Q (set d (.a (.sl p (off + l * es) (h - l) es)) σ)) : WH Γ dsts (⟨d, .slc (.sl es) a lo hi, gd, l1, l2, l3, l4⟩ :: ops) Q σ :=
  WH.q hw (by simp only [veil, quiet, ha, slc, hl, hh, Option.bind_some]; rw [if_pos ⟨hb.1, hb.2, trivial⟩]) hv K
end
/-- A slice behind its first cell, and a cell, handed to a call. -/
theorem args_tail {σ : St} {p n : Nat} {l : List Cel} {x : D} (hn : n + 1 = l.length) (h : σ.objs p = some (.flat false (encC l))) : args σ [] [] [.a (.sl p (0 + 1 * 2) n 2), .a (.d x)] = some [asl (l.drop 1), .d x] := by
  have hl := encC_length l
  have e : ((encC l).drop (0 + 1 * 2)).take (n * 2) = encC (l.drop 1) := by
    rw [show 0 + 1 * 2 = 1 * 2 from rfl, encC_dr, List.take_of_length_le]
    rw [encC_length, List.length_drop]; omega
  have h1 : toDV (fun o => if ([] : List Nat).contains o then none else σ.objs o) depth (.a (.sl p (0 + 1 * 2) n 2)) = some (.sl (l.drop 1).length 2 (encC (l.drop 1))) := by
    show toDA _ _ _ = _
    simp only [toDA, List.contains_nil, Bool.false_eq_true, if_false, h]
    rw [if_pos (by omega), e, show n = (l.drop 1).length by rw [List.length_drop]; omega]
  simp only [args]
  rw [h1]
  rfl

theorem belowCode_congr {a b c a' b' c' : Prop} {d1 : Decidable a} {d2 : Decidable b} {d3 : Decidable c} {e1 : Decidable a'} {e2 : Decidable b'} {e3 : Decidable c'} (h1 : a ↔ a') (h2 : b ↔ b') (h3 : c ↔ c') : belowCode a b c = belowCode a' b' c' := by
  unfold belowCode
  by_cases k1 : a <;> by_cases k2 : b <;> by_cases k3 : c <;> simp [k1, k2, k3, ← h1, ← h2, ← h3]
def nightRes (code i : Int) : Res := if code = 0 then (if i < 0 then ⟨[.s (.int .i64 0), .s (.int .i64 6)], []⟩ else ⟨[.s (.int .i64 (i + 1)), .s (.int .i64 0)], []⟩) else ⟨[.s (.int .i64 0), .s (.int .i64 code)], []⟩
def nightCode (w h : Int) (g q : Nat → Int) (a b : Cel) : Int := belowCode (LevOk w h g q) (Has w h a.1 a.2 ∧ Has w h b.1 b.2) (Is w h g 0 a.1 a.2 ∧ Is w h g 0 b.1 b.2)
def nightIdx (w h : Int) (g q : Nat → Int) (qs : List S) (a b : Cel) : Int := idxOf (fun c => b.1 = c.1 ∧ b.2 = c.2) (((Mole.mk q qs a a).path w h g 60).drop 1) 0

end Go.DM
