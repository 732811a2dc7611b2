/- NightOf: the program's side. -/
import Derived.Test.YtppmmeciihmnjaaDoorK282All
set_option linter.unusedSimpArgs false
set_option linter.unusedVariables false
namespace Go.DM
open Go.IntWalk
variable {w h : Int} {g : Nat → Int} {cs : List S} {q : Nat → Int} {qs : List S}

section
variable {Γ : Nat → Option Fn} {dsts : Nat → Option Nat} {ops : List Oper} {Q : St → Prop} {σ : St} {d : Option Nat} {gd : Option (Nat × Bool)} {l1 l2 l3 l4 : List Nat}
theorem WH.s2 {es p off n l h : Nat} {a : Opd} {lo hi : Option Opd} (hw : wanted dsts (kill l1 (only l3 σ)).env gd = some true) (ha : ev (kill l1 (only l3 σ)).env a = .a (.sl p off n es)) (hl : bound (lo.map (ev (kill l1 (only l3 σ)).env)) 0 = some l) (hh : bound (hi.map (ev (kill l1 (only l3 σ)).env)) n = some h) (hb : l ≤ h ∧ h ≤ n)
    (hv : killV l1 (.a (.sl p (off + l * es) (h - l) es)) = .a (.sl p (off + l * es) (h - l) es)) (K : WH Γ dsts ops Q (set d (.a (.sl p (off + l * es) (h - l) es)) σ)) : WH Γ dsts (⟨d, .slc (.sl es) a lo hi, gd, l1, l2, l3, l4⟩ :: ops) Q σ :=
  WH.q hw (by simp only [veil, quiet, ha, slc, hl, hh, Option.bind_some]; rw [if_pos ⟨hb.1, hb.2, trivial⟩]) hv K
end
/-- A slice behind its first cell, and a cell, handed to a call. -/
theorem args_tail {σ : St} {p n : Nat} {l : List Cel} {x : D} (hn : n + 1 = l.length) (h : σ.objs p = some (.flat false (encC l))) : args σ [] [] [.a (.sl p (0 + 1 * 2) n 2), .a (.d x)] = some [asl (l.drop 1), .d x] := by
  have hl := encC_length l
  have e : ((encC l).drop (0 + 1 * 2)).take (n * 2) = encC (l.drop 1) := by
    rw [show 0 + 1 * 2 = 1 * 2 from rfl, encC_dr, List.take_of_length_le]
    rw [encC_length, List.length_drop]; omega
  have h1 : toDV (fun o => if ([] : List Nat).contains o then none else σ.objs o) depth (.a (.sl p (0 + 1 * 2) n 2)) = some (.sl (l.drop 1).length 2 (encC (l.drop 1))) := by
    show toDA _ _ _ = _
    simp only [toDA, List.contains_nil, Bool.false_eq_true, if_false, h]
    rw [if_pos (by omega), e, show n = (l.drop 1).length by rw [List.length_drop]; omega]
  simp only [args]
  rw [h1]
  rfl

theorem belowCode_congr {a b c a' b' c' : Prop} {d1 : Decidable a} {d2 : Decidable b} {d3 : Decidable c} {e1 : Decidable a'} {e2 : Decidable b'} {e3 : Decidable c'} (h1 : a ↔ a') (h2 : b ↔ b') (h3 : c ↔ c') : belowCode a b c = belowCode a' b' c' := by
  unfold belowCode
  by_cases k1 : a <;> by_cases k2 : b <;> by_cases k3 : c <;> simp [k1, k2, k3, ← h1, ← h2, ← h3]
def nightRes (code i : Int) : Res := if code = 0 then (if i < 0 then ⟨[.s (.int .i64 0), .s (.int .i64 6)], []⟩ else ⟨[.s (.int .i64 (i + 1)), .s (.int .i64 0)], []⟩) else ⟨[.s (.int .i64 0), .s (.int .i64 code)], []⟩
def nightCode (w h : Int) (g q : Nat → Int) (a b : Cel) : Int := belowCode (LevOk w h g q) (Has w h a.1 a.2 ∧ Has w h b.1 b.2) (Is w h g 0 a.1 a.2 ∧ Is w h g 0 b.1 b.2)
def nightIdx (w h : Int) (g q : Nat → Int) (qs : List S) (a b : Cel) : Int := idxOf (fun c => b.1 = c.1 ∧ b.2 = c.2) (((Mole.mk q qs a a).path w h g 60).drop 1) 0

end Go.DM

/- The statements' own functions: copies of cells, lawns, levels. -/
set_option linter.unusedSimpArgs false
set_option linter.unusedVariables false
namespace Go.DM
open Go.IntWalk
theorem storeOne {p : Bool} {cs : List S} {x : S} {off k : Nat} (hk : k < cs.length) (h : off = k) : storeO 1 (.a (.d (.s x))) off (.flat p cs) = some (.flat p (cs.set k x)) := by
  subst h
  simp only [storeO, cellsOf]
  rw [if_pos ⟨rfl, by omega⟩]
  congr 2
  rw [List.set_eq_take_append_cons_drop, if_pos hk]
  simp
theorem toByteA10_gives {cs : List S} (hl : cs.length = 10) : Gives G 54 [aa cs] ⟨[.agg cs], []⟩ := by
  refine Gives.by rfl rfl (W.seq ?_)
  (with_reducible apply W.region)
  (with_reducible apply WR.bx); exact rfl; exact rfl; exact hl; exact rfl
  repeat' first | ((with_reducible apply WR.mv); exact rfl; exact rfl) | ((with_reducible apply WR.nil)) | (with_reducible refine andThen_n ?_) | (with_reducible refine W.seq ?_) | (with_reducible refine W.region ?_) | (with_reducible refine W.block ?_) | ((with_reducible apply WR.al); exact rfl; (first | exact rfl))
  refine W.loopI (fun n σ => ∃ (i : Nat) (out : List S), n = 10 - i ∧ i ≤ 10 ∧ out.length = 10 ∧ out.take i = cs.take i ∧ σ.env 4 = .a (.d (.s (.int .i64 i))) ∧ σ.env 1 = .a (.ptr 1 0) ∧ σ.env 2 = .a (.ptr 2 0) ∧ σ.env 3 = .a (.ptr 3 0) ∧ σ.objs 1 = some (.flat false cs) ∧ σ.objs 3 = some (.flat false out) ∧ σ.objs 2 = some (.flat false (List.replicate 10 (.int .u8 0))))
    ?_ _ _ ⟨0, List.replicate 10 (.int .u8 0), rfl, by omega, rfl, rfl, rfl, rfl, rfl, rfl, rfl, rfl, rfl⟩
  rintro n σ ⟨i, out, rfl, hi, ho, ht, e4, e1, e2, e3, o1, o3, o2⟩
  rw [← set_self e4, ← set_self e1, ← set_self e2, ← set_self e3, ← put_self o1, ← put_self o3, ← put_self o2]
  repeat' first | ((with_reducible apply WR.mv); exact rfl; exact rfl) | ((with_reducible apply WR.nil)) | (with_reducible refine andThen_n ?_) | (with_reducible refine andThen_x ?_) | (with_reducible refine inB_x ?_) | (with_reducible refine W.seq ?_) | (with_reducible refine W.region ?_) | (with_reducible refine W.skip ?_) | (with_reducible refine W.exit ?_) | (with_reducible refine W.block ?_) | ((with_reducible apply W.condT); exact rfl) | ((with_reducible apply W.condF); exact rfl) | (intro hb; try (exfalso; omega)) | ((with_reducible apply WR.ia); exact rfl; exact rfl; exact rfl; omega) | ((with_reducible apply WR.lss); exact rfl; exact rfl; exact rfl)
  · obtain ⟨c, hc⟩ : ∃ c, cs[i]? = some c := ⟨cs[i]'(by omega), by simp⟩
    (with_reducible apply WR.ld); exact rfl; exact rfl; exact rfl; exact loadC_one (s := c) (by rw [Int.toNat_natCast, Nat.zero_add, Nat.mul_one]; exact hc)
    repeat' first | ((with_reducible apply WR.ia); exact rfl; exact rfl; exact rfl; omega)
    (with_reducible apply WR.st); exact rfl; exact rfl; exact rfl; exact storeOne (k := i) (by omega) (by rw [Int.toNat_natCast]; omega)
    repeat' first | ((with_reducible apply WR.mv); exact rfl; exact rfl) | ((with_reducible apply WR.nil)) | (with_reducible refine andThen_n ?_) | (with_reducible refine inB_n ?_) | (with_reducible refine W.region ?_) | ((with_reducible apply WR.ad); exact rfl; exact rfl; exact rfl; (first | exact i64_in _ (by omega)))
    exact ⟨_, by omega, i + 1, out.set i c, rfl, by omega, by simpa using ho, by rw [List.take_add_one, List.take_add_one, List.take_set_of_le (Nat.le_refl _), ht, List.getElem?_set_self (by omega), hc], rfl, rfl, rfl, rfl, rfl, rfl, rfl⟩
  · have hoc : out = cs := by
      rw [List.take_of_length_le (by omega), List.take_of_length_le (by omega)] at ht
      exact ht
    subst hoc
    (with_reducible apply WR.ld); exact rfl; exact rfl; exact rfl; exact loadC_all hl
    (with_reducible apply WR.st); exact rfl; exact rfl; exact rfl; exact storeAll hl rfl
    repeat' first | ((with_reducible apply WR.nil)) | (with_reducible refine andThen_n ?_) | (with_reducible refine W.ret ?_)
    exact Done.r (finish_c rfl rfl rfl hl rfl) rfl
theorem loadRow {cs : List S} {off k : Nat} (hk : k + 10 ≤ cs.length) (h : off = k) : loadC 10 true cs off = some (.a (.d (.agg ((cs.drop k).take 10)))) := by
  subst h
  simp only [loadC, ofCells, av]
  rw [if_pos hk]; rfl
theorem storeRow {p : Bool} {cs xs : List S} {off k : Nat} (hx : xs.length = 10) (hk : k + 10 ≤ cs.length) (h : off = k) : storeO 10 (.a (.d (.agg xs))) off (.flat p cs) = some (.flat p (cs.take k ++ xs ++ cs.drop (k + 10))) := by
  subst h
  simp only [storeO, cellsOf]
  rw [if_pos ⟨hx, hk⟩]
theorem toByteA10A10_gives {cs : List S} (hl : cs.length = 100) : Gives G 23 [aa cs] ⟨[.agg cs], []⟩ := by
  refine Gives.by rfl rfl (W.seq ?_)
  (with_reducible apply W.region)
  (with_reducible apply WR.bx); exact rfl; exact rfl; exact hl; exact rfl
  repeat' first | ((with_reducible apply WR.mv); exact rfl; exact rfl) | ((with_reducible apply WR.nil)) | (with_reducible refine andThen_n ?_) | (with_reducible refine W.seq ?_) | (with_reducible refine W.region ?_) | (with_reducible refine W.block ?_) | ((with_reducible apply WR.al); exact rfl; (first | exact rfl))
  refine W.loopI (fun n σ => ∃ (i : Nat) (out : List S), n = 10 - i ∧ i ≤ 10 ∧ out.length = 100 ∧ out.take (i * 10) = cs.take (i * 10) ∧ σ.env 4 = .a (.d (.s (.int .i64 i))) ∧ σ.env 1 = .a (.ptr 1 0) ∧ σ.env 2 = .a (.ptr 2 0) ∧ σ.env 3 = .a (.ptr 3 0) ∧ σ.objs 1 = some (.flat false cs) ∧ σ.objs 3 = some (.flat false out) ∧ σ.objs 2 = some (.flat false (List.replicate 100 (.int .u8 0))))
    ?_ _ _ ⟨0, List.replicate 100 (.int .u8 0), rfl, by omega, rfl, rfl, rfl, rfl, rfl, rfl, rfl, rfl, rfl⟩
  rintro n σ ⟨i, out, rfl, hi, ho, ht, e4, e1, e2, e3, o1, o3, o2⟩
  rw [← set_self e4, ← set_self e1, ← set_self e2, ← set_self e3, ← put_self o1, ← put_self o3, ← put_self o2]
  repeat' first | ((with_reducible apply WR.mv); exact rfl; exact rfl) | ((with_reducible apply WR.nil)) | (with_reducible refine andThen_n ?_) | (with_reducible refine andThen_x ?_) | (with_reducible refine inB_x ?_) | (with_reducible refine W.seq ?_) | (with_reducible refine W.region ?_) | (with_reducible refine W.skip ?_) | (with_reducible refine W.exit ?_) | (with_reducible refine W.block ?_) | ((with_reducible apply W.condT); exact rfl) | ((with_reducible apply W.condF); exact rfl) | (intro hb; try (exfalso; omega)) | ((with_reducible apply WR.ia); exact rfl; exact rfl; exact rfl; omega) | ((with_reducible apply WR.lss); exact rfl; exact rfl; exact rfl)
  · have hrow : ((cs.drop (i * 10)).take 10).length = 10 := by rw [List.length_take, List.length_drop]; omega
    (with_reducible apply WR.ld); exact rfl; exact rfl; exact rfl; exact loadRow (k := i * 10) (by omega) (by rw [Int.toNat_natCast]; omega)
    (with_reducible apply WR.ca); exact rfl; exact rfl; exact rfl; exact rfl; exact toByteA10_gives hrow; exact rfl
    repeat' first | ((with_reducible apply WR.ia); exact rfl; exact rfl; exact rfl; omega)
    (with_reducible apply WR.st); exact rfl; exact rfl; exact rfl; exact storeRow (k := i * 10) hrow (by omega) (by rw [Int.toNat_natCast]; omega)
    repeat' first | ((with_reducible apply WR.mv); exact rfl; exact rfl) | ((with_reducible apply WR.nil)) | (with_reducible refine andThen_n ?_) | (with_reducible refine inB_n ?_) | (with_reducible refine W.region ?_) | ((with_reducible apply WR.ad); exact rfl; exact rfl; exact rfl; (first | exact i64_in _ (by omega)))
    exact ⟨_, by omega, i + 1, _, rfl, by omega, by rw [List.length_append, List.length_append, List.length_take, List.length_drop, hrow]; omega, by rw [show (i + 1) * 10 = i * 10 + 10 by omega, List.take_add (l := cs), List.take_left' (by rw [List.length_append, List.length_take, hrow]; omega), ht], rfl, rfl, rfl, rfl, rfl, rfl, rfl⟩
  · have hoc : out = cs := by
      rw [List.take_of_length_le (by omega), List.take_of_length_le (by omega)] at ht
      exact ht
    subst hoc
    (with_reducible apply WR.ld); exact rfl; exact rfl; exact rfl; exact loadC_all hl
    (with_reducible apply WR.st); exact rfl; exact rfl; exact rfl; exact storeAll hl rfl
    repeat' first | ((with_reducible apply WR.nil)) | (with_reducible refine andThen_n ?_) | (with_reducible refine W.ret ?_)
    exact Done.r (finish_c rfl rfl rfl hl rfl) rfl
theorem loadTail {c0 c1 : S} {r : List S} (hr : r.length = 100) : loadC 100 true (c0 :: c1 :: r) (0 + 2) = some (.a (.d (.agg r))) := by
  simp only [loadC, ofCells, av, List.length_cons, hr, Nat.zero_add, List.drop_succ_cons, List.drop_zero]
  rw [if_pos (by omega), List.take_of_length_le (by omega)]; rfl
theorem storeTail {p : Bool} {x y : S} {r zs : List S} (hr : r.length = 100) (hz : zs.length = 100) : storeO 100 (.a (.d (.agg r))) (0 + 2) (.flat p (x :: y :: zs)) = some (.flat p (x :: y :: r)) := by
  simp only [storeO, cellsOf, List.length_cons, hz, Nat.zero_add]
  rw [if_pos ⟨hr, by omega⟩]
  rw [List.drop_eq_nil_of_le (by simp [hz])]
  simp
theorem toLawn_gives {w h : Int} {g : Nat → Int} {cs : List S} (l : IsLawn w h g cs) : Gives G 9 [aa cs] ⟨[.agg cs], []⟩ := by
  have hl := l.len
  obtain ⟨c0, c1, r, rfl⟩ : ∃ c0 c1 r, cs = c0 :: c1 :: r := by
    match cs, hl with
    | c0 :: c1 :: r, _ => exact ⟨c0, c1, r, rfl⟩
  have hr : r.length = 100 := by simpa using hl
  refine Gives.by rfl rfl (W.seq ?_)
  repeat' first | ((with_reducible apply WR.fa); exact rfl; exact rfl) | ((with_reducible apply WR.ld); exact rfl; exact rfl; exact rfl; (first | exact lawn_w (by assumption) | exact lawn_h (by assumption))) | ((with_reducible apply WR.st); exact rfl; exact rfl; exact rfl; exact rfl) | ((with_reducible apply WR.nil)) | (with_reducible refine andThen_n ?_) | (with_reducible refine W.seq ?_) | (with_reducible refine W.region ?_) | ((with_reducible apply WR.al); exact rfl; (first | exact rfl)) | ((with_reducible apply WR.bx); exact rfl; exact rfl; exact IsLawn.len (by assumption); (first | exact rfl))
  have h0 : c0 = .int .i8 w := by simpa using l.w
  have h1 : c1 = .int .i8 h := by simpa using l.h
  (with_reducible apply WR.ld); exact rfl; exact rfl; exact rfl; exact loadTail hr
  (with_reducible apply WR.ca); exact rfl; exact rfl; exact rfl; exact rfl; exact toByteA10A10_gives hr; exact rfl
  repeat' first | ((with_reducible apply WR.fa); exact rfl; exact rfl)
  (with_reducible apply WR.st); exact rfl; exact rfl; exact rfl; exact storeTail (x := .int .i8 w) (y := .int .i8 h) (zs := List.replicate 100 (.int .u8 0)) hr rfl
  have hl' : (S.int .i8 w :: S.int .i8 h :: r).length = 102 := by simp [hr]
  repeat' first | ((with_reducible apply WR.nil)) | (with_reducible refine andThen_n ?_) | (with_reducible refine W.seq ?_) | (with_reducible refine W.region ?_)
  (with_reducible apply WR.ld); exact rfl; exact rfl; exact rfl; exact loadC_all hl'
  (with_reducible apply WR.st); exact rfl; exact rfl; exact rfl; exact storeAll hl' rfl
  repeat' first | ((with_reducible apply WR.nil)) | (with_reducible refine andThen_n ?_) | (with_reducible refine W.ret ?_)
  exact Done.r (finish_c rfl rfl rfl hl' rfl) (by rw [h0, h1])
end Go.DM
