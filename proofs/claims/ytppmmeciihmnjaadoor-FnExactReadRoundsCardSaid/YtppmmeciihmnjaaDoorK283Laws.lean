/- strings.Split and number, as given; the pieces of a text are no longer than it. -/
import Derived.Test.YtppmmeciihmnjaaDoorK283Dec
import Derived.Test.YtppmmeciihmnjaaDoorK283Those
set_option linter.unusedSimpArgs false
set_option linter.unusedVariables false
namespace Go.DM
theorem piece_len {c : UInt8} : ∀ {s p : List UInt8}, p ∈ pieces c s → p.length ≤ s.length
  | [], p, h => by
    simp only [pieces, List.mem_singleton] at h
    rw [h]; exact Nat.le_refl _
  | b :: r, p, h => by
    by_cases e : b = c
    · subst e
      rw [pieces_hit, List.mem_cons] at h
      rcases h with rfl | h
      · simp
      · have := piece_len h; rw [List.length_cons]; omega
    · obtain ⟨q, qs, e1, e2⟩ := pieces_miss e r
      rw [e2, List.mem_cons] at h
      rcases h with rfl | h
      · have := piece_len (c := c) (s := r) (p := q) (by rw [e1]; simp)
        rw [List.length_cons, List.length_cons]; omega
      · have := piece_len (c := c) (s := r) (p := p) (by rw [e1]; exact List.mem_cons_of_mem _ h)
        rw [List.length_cons]; omega
theorem split_gives (s : List UInt8) (c : UInt8) (hs : s.length ≤ 2000000) : Gives G 238 [.d (.s (.str s)), .d (.s (.str [c]))] ⟨[.own (pieces c s).length 1 (encS (pieces c s))], []⟩ :=
  Gives.given rfl rfl (by
    simp only [splitO]
    rw [if_pos hs, encS_map])
theorem number_gives (s : List UInt8) (hs : s.length ≤ 2000000) : Gives G 314 [.d (.s (.str s))] (ri .i64 (numL s)) :=
  Gives.given rfl rfl (by
    simp only [numberO]
    rw [if_pos hs])
end Go.DM

/- NightOf: the program's side. -/
set_option linter.unusedSimpArgs false
set_option linter.unusedVariables false
namespace Go.DM
open Go.IntWalk
variable {w h : Int} {g : Nat → Int} {cs : List S} {q : Nat → Int} {qs : List S}

section
variable {Γ : Nat → Option Fn} {dsts : Nat → Option Nat} {ops : List Oper} {Q : St → Prop} {σ : St} {d : Option Nat} {gd : Option (Nat × Bool)} {l1 l2 l3 l4 : List Nat}
theorem WH.s2 {es p off n l h : Nat} {a : Opd} {lo hi : Option Opd} (hw : wanted dsts (kill l1 (only l3 σ)).env gd = some true) (ha : ev (kill l1 (only l3 σ)).env a = .a (.sl p off n es)) (hl : bound (lo.map (ev (kill l1 (only l3 σ)).env)) 0 = some l) (hh : bound (hi.map (ev (kill l1 (only l3 σ)).env)) n = some h) (hb : l ≤ h ∧ h ≤ n)
    (hv : killV l1 (.a (.sl p (off + l * es) (h - l) es)) = .a (.sl p (off + l * es) (h - l) es)) (K : WH Γ dsts ops Q (set d (.a (.sl p (off + l * es) (h - l) es)) σ)) : WH Γ dsts (⟨d, .slc (.sl es) a lo hi, gd, l1, l2, l3, l4⟩ :: ops) Q σ :=
  WH.q hw (by simp only [veil, quiet, ha, slc, hl, hh, Option.bind_some]; rw [if_pos ⟨hb.1, hb.2, trivial⟩]) hv K
end
/-- A slice behind its first cell, and a cell, handed to a call. -/
theorem args_tail {σ : St} {p n : Nat} {l : List Cel} {x : D} (hn : n + 1 = l.length) (h : σ.objs p = some (.flat false (encC l))) : args σ [] [] [.a (.sl p (0 + 1 * 2) n 2), .a (.d x)] = some [asl (l.drop 1), .d x] := by
  have hl := encC_length l
  have e : ((encC l).drop (0 + 1 * 2)).take (n * 2) = encC (l.drop 1) := by
    rw [show 0 + 1 * 2 = 1 * 2 from rfl, encC_dr, List.take_of_length_le]
    rw [encC_length, List.length_drop]; omega
  have h1 : toDV (fun o => if ([] : List Nat).contains o then none else σ.objs o) depth (.a (.sl p (0 + 1 * 2) n 2)) = some (.sl (l.drop 1).length 2 (encC (l.drop 1))) := by
    show toDA _ _ _ = _
    simp only [toDA, List.contains_nil, Bool.false_eq_true, if_false, h]
    rw [if_pos (by omega), e, show n = (l.drop 1).length by rw [List.length_drop]; omega]
  simp only [args]
  rw [h1]
  rfl

theorem belowCode_congr {a b c a' b' c' : Prop} {d1 : Decidable a} {d2 : Decidable b} {d3 : Decidable c} {e1 : Decidable a'} {e2 : Decidable b'} {e3 : Decidable c'} (h1 : a ↔ a') (h2 : b ↔ b') (h3 : c ↔ c') : belowCode a b c = belowCode a' b' c' := by
  unfold belowCode
  by_cases k1 : a <;> by_cases k2 : b <;> by_cases k3 : c <;> simp [k1, k2, k3, ← h1, ← h2, ← h3]
def nightRes (code i : Int) : Res := if code = 0 then (if i < 0 then ⟨[.s (.int .i64 0), .s (.int .i64 6)], []⟩ else ⟨[.s (.int .i64 (i + 1)), .s (.int .i64 0)], []⟩) else ⟨[.s (.int .i64 0), .s (.int .i64 code)], []⟩
def nightCode (w h : Int) (g q : Nat → Int) (a b : Cel) : Int := belowCode (LevOk w h g q) (Has w h a.1 a.2 ∧ Has w h b.1 b.2) (Is w h g 0 a.1 a.2 ∧ Is w h g 0 b.1 b.2)
def nightIdx (w h : Int) (g q : Nat → Int) (qs : List S) (a b : Cel) : Int := idxOf (fun c => b.1 = c.1 ∧ b.2 = c.2) (((Mole.mk q qs a a).path w h g 60).drop 1) 0

end Go.DM

/- The statements' own functions: copies of cells, lawns, levels. -/
set_option linter.unusedSimpArgs false
set_option linter.unusedVariables false
namespace Go.DM
open Go.IntWalk
theorem storeOne {p : Bool} {cs : List S} {x : S} {off k : Nat} (hk : k < cs.length) (h : off = k) : storeO 1 (.a (.d (.s x))) off (.flat p cs) = some (.flat p (cs.set k x)) := by
  subst h
  simp only [storeO, cellsOf]
  rw [if_pos ⟨rfl, by omega⟩]
  congr 2
  rw [List.set_eq_take_append_cons_drop, if_pos hk]
  simp
theorem loadRow {cs : List S} {off k : Nat} (hk : k + 10 ≤ cs.length) (h : off = k) : loadC 10 true cs off = some (.a (.d (.agg ((cs.drop k).take 10)))) := by
  subst h
  simp only [loadC, ofCells, av]
  rw [if_pos hk]; rfl
theorem storeRow {p : Bool} {cs xs : List S} {off k : Nat} (hx : xs.length = 10) (hk : k + 10 ≤ cs.length) (h : off = k) : storeO 10 (.a (.d (.agg xs))) off (.flat p cs) = some (.flat p (cs.take k ++ xs ++ cs.drop (k + 10))) := by
  subst h
  simp only [storeO, cellsOf]
  rw [if_pos ⟨hx, hk⟩]
theorem loadTail {c0 c1 : S} {r : List S} (hr : r.length = 100) : loadC 100 true (c0 :: c1 :: r) (0 + 2) = some (.a (.d (.agg r))) := by
  simp only [loadC, ofCells, av, List.length_cons, hr, Nat.zero_add, List.drop_succ_cons, List.drop_zero]
  rw [if_pos (by omega), List.take_of_length_le (by omega)]; rfl
theorem storeTail {p : Bool} {x y : S} {r zs : List S} (hr : r.length = 100) (hz : zs.length = 100) : storeO 100 (.a (.d (.agg r))) (0 + 2) (.flat p (x :: y :: zs)) = some (.flat p (x :: y :: r)) := by
  simp only [storeO, cellsOf, List.length_cons, hz, Nat.zero_add]
  rw [if_pos ⟨hr, by omega⟩]
  rw [List.drop_eq_nil_of_le (by simp [hz])]
  simp
end Go.DM
