/- The statements' own functions: copies of cells, lawns, levels. -/
import Derived.Test.YtaocbbdkiemhaaaK139NightOf
set_option linter.unusedSimpArgs false
set_option linter.unusedVariables false
namespace Go.DM
set_option linter.unusedSectionVars false
variable [Tok]
open Go.IntWalk
theorem toCell_gives (x y : Int) : Gives G 11 [ac x y] ⟨[.agg [.int .i8 x, .int .i8 y]], []⟩ := by
  refine Gives.by rfl rfl (W.seq ?_)
  repeat' first | ((with_reducible apply WR.fa); exact rfl; exact rfl) | ((with_reducible apply WR.lx); exact rfl; exact rfl) | ((with_reducible apply WR.st); exact rfl; exact rfl; exact rfl; exact rfl) | ((with_reducible apply WR.nil)) | (with_reducible refine andThen_n ?_) | (with_reducible refine W.seq ?_) | (with_reducible refine W.region ?_) | (with_reducible refine W.ret ?_) | ((with_reducible apply Done.r); exact rfl) | ((with_reducible apply WR.al); exact rfl; (first | exact rfl)) | ((with_reducible apply WR.bo); exact rfl; exact rfl; (first | exact rfl))
  all_goals rfl

theorem storeOne {p : Bool} {cs : List S} {x : S} {off k : Nat} (hk : k < cs.length) (h : off = k) : storeO 1 (.a (.d (.s x))) off (.flat p cs) = some (.flat p (cs.set k x)) := by
  subst h
  simp only [storeO, cellsOf]
  rw [if_pos ⟨rfl, by omega⟩]
  congr 2
  rw [List.set_eq_take_append_cons_drop, if_pos hk]
  simp
theorem toByteA10_gives {cs : List S} (hl : cs.length = 10) : Gives G 54 [aa cs] ⟨[.agg cs], []⟩ := by
  refine Gives.by rfl rfl (W.seq ?_)
  (with_reducible apply W.region)
  (with_reducible apply WR.bx); exact rfl; exact rfl; exact hl; exact rfl
  repeat' first | ((with_reducible apply WR.mv); exact rfl; exact rfl) | ((with_reducible apply WR.nil)) | (with_reducible refine andThen_n ?_) | (with_reducible refine W.seq ?_) | (with_reducible refine W.region ?_) | (with_reducible refine W.block ?_) | ((with_reducible apply WR.al); exact rfl; (first | exact rfl))
  refine W.loopI (fun n σ => ∃ (i : Nat) (out : List S), n = 10 - i ∧ i ≤ 10 ∧ out.length = 10 ∧ out.take i = cs.take i ∧ σ.env 4 = .a (.d (.s (.int .i64 i))) ∧ σ.env 1 = .a (.ptr 1 0) ∧ σ.env 2 = .a (.ptr 2 0) ∧ σ.env 3 = .a (.ptr 3 0) ∧ σ.objs 1 = some (.flat false cs) ∧ σ.objs 3 = some (.flat false out) ∧ σ.objs 2 = some (.flat false (List.replicate 10 (.int .u8 0))))
    ?_ _ _ ⟨0, List.replicate 10 (.int .u8 0), rfl, by omega, rfl, rfl, rfl, rfl, rfl, rfl, rfl, rfl, rfl⟩
  rintro n σ ⟨i, out, rfl, hi, ho, ht, e4, e1, e2, e3, o1, o3, o2⟩
  rw [← set_self e4, ← set_self e1, ← set_self e2, ← set_self e3, ← put_self o1, ← put_self o3, ← put_self o2]
  repeat' first | ((with_reducible apply WR.mv); exact rfl; exact rfl) | ((with_reducible apply WR.nil)) | (with_reducible refine andThen_n ?_) | (with_reducible refine andThen_x ?_) | (with_reducible refine inB_x ?_) | (with_reducible refine W.seq ?_) | (with_reducible refine W.region ?_) | (with_reducible refine W.skip ?_) | (with_reducible refine W.exit ?_) | (with_reducible refine W.block ?_) | ((with_reducible apply W.condT); exact rfl) | ((with_reducible apply W.condF); exact rfl) | (intro hb; try (exfalso; omega)) | ((with_reducible apply WR.ia); exact rfl; exact rfl; exact rfl; omega) | ((with_reducible apply WR.lss); exact rfl; exact rfl; exact rfl)
  · obtain ⟨c, hc⟩ : ∃ c, cs[i]? = some c := ⟨cs[i]'(by omega), by simp⟩
    (with_reducible apply WR.ld); exact rfl; exact rfl; exact rfl; exact loadC_one (s := c) (by rw [Int.toNat_natCast, Nat.zero_add, Nat.mul_one]; exact hc)
    repeat' first | ((with_reducible apply WR.ia); exact rfl; exact rfl; exact rfl; omega)
    (with_reducible apply WR.st); exact rfl; exact rfl; exact rfl; exact storeOne (k := i) (by omega) (by rw [Int.toNat_natCast]; omega)
    repeat' first | ((with_reducible apply WR.mv); exact rfl; exact rfl) | ((with_reducible apply WR.nil)) | (with_reducible refine andThen_n ?_) | (with_reducible refine inB_n ?_) | (with_reducible refine W.region ?_) | ((with_reducible apply WR.ad); exact rfl; exact rfl; exact rfl; (first | exact i64_in _ (by omega)))
    exact ⟨_, by omega, i + 1, out.set i c, rfl, by omega, by simpa using ho, by rw [List.take_add_one, List.take_add_one, List.take_set_of_le (Nat.le_refl _), ht, List.getElem?_set_self (by omega), hc], rfl, rfl, rfl, rfl, rfl, rfl, rfl⟩
  · have hoc : out = cs := by
      rw [List.take_of_length_le (by omega), List.take_of_length_le (by omega)] at ht
      exact ht
    subst hoc
    (with_reducible apply WR.ld); exact rfl; exact rfl; exact rfl; exact loadC_all hl
    (with_reducible apply WR.st); exact rfl; exact rfl; exact rfl; exact storeAll hl rfl
    repeat' first | ((with_reducible apply WR.nil)) | (with_reducible refine andThen_n ?_) | (with_reducible refine W.ret ?_)
    exact Done.r (finish_c rfl rfl rfl hl rfl) rfl
theorem loadRow {cs : List S} {off k : Nat} (hk : k + 10 ≤ cs.length) (h : off = k) : loadC 10 true cs off = some (.a (.d (.agg ((cs.drop k).take 10)))) := by
  subst h
  simp only [loadC, ofCells, av]
  rw [if_pos hk]; rfl
theorem storeRow {p : Bool} {cs xs : List S} {off k : Nat} (hx : xs.length = 10) (hk : k + 10 ≤ cs.length) (h : off = k) : storeO 10 (.a (.d (.agg xs))) off (.flat p cs) = some (.flat p (cs.take k ++ xs ++ cs.drop (k + 10))) := by
  subst h
  simp only [storeO, cellsOf]
  rw [if_pos ⟨hx, hk⟩]
theorem toByteA10A10_gives {cs : List S} (hl : cs.length = 100) : Gives G 23 [aa cs] ⟨[.agg cs], []⟩ := by
  refine Gives.by rfl rfl (W.seq ?_)
  (with_reducible apply W.region)
  (with_reducible apply WR.bx); exact rfl; exact rfl; exact hl; exact rfl
  repeat' first | ((with_reducible apply WR.mv); exact rfl; exact rfl) | ((with_reducible apply WR.nil)) | (with_reducible refine andThen_n ?_) | (with_reducible refine W.seq ?_) | (with_reducible refine W.region ?_) | (with_reducible refine W.block ?_) | ((with_reducible apply WR.al); exact rfl; (first | exact rfl))
  refine W.loopI (fun n σ => ∃ (i : Nat) (out : List S), n = 10 - i ∧ i ≤ 10 ∧ out.length = 100 ∧ out.take (i * 10) = cs.take (i * 10) ∧ σ.env 4 = .a (.d (.s (.int .i64 i))) ∧ σ.env 1 = .a (.ptr 1 0) ∧ σ.env 2 = .a (.ptr 2 0) ∧ σ.env 3 = .a (.ptr 3 0) ∧ σ.objs 1 = some (.flat false cs) ∧ σ.objs 3 = some (.flat false out) ∧ σ.objs 2 = some (.flat false (List.replicate 100 (.int .u8 0))))
    ?_ _ _ ⟨0, List.replicate 100 (.int .u8 0), rfl, by omega, rfl, rfl, rfl, rfl, rfl, rfl, rfl, rfl, rfl⟩
  rintro n σ ⟨i, out, rfl, hi, ho, ht, e4, e1, e2, e3, o1, o3, o2⟩
  rw [← set_self e4, ← set_self e1, ← set_self e2, ← set_self e3, ← put_self o1, ← put_self o3, ← put_self o2]
  repeat' first | ((with_reducible apply WR.mv); exact rfl; exact rfl) | ((with_reducible apply WR.nil)) | (with_reducible refine andThen_n ?_) | (with_reducible refine andThen_x ?_) | (with_reducible refine inB_x ?_) | (with_reducible refine W.seq ?_) | (with_reducible refine W.region ?_) | (with_reducible refine W.skip ?_) | (with_reducible refine W.exit ?_) | (with_reducible refine W.block ?_) | ((with_reducible apply W.condT); exact rfl) | ((with_reducible apply W.condF); exact rfl) | (intro hb; try (exfalso; omega)) | ((with_reducible apply WR.ia); exact rfl; exact rfl; exact rfl; omega) | ((with_reducible apply WR.lss); exact rfl; exact rfl; exact rfl)
  · have hrow : ((cs.drop (i * 10)).take 10).length = 10 := by rw [List.length_take, List.length_drop]; omega
    (with_reducible apply WR.ld); exact rfl; exact rfl; exact rfl; exact loadRow (k := i * 10) (by omega) (by rw [Int.toNat_natCast]; omega)
    (with_reducible apply WR.ca); exact rfl; exact rfl; exact rfl; exact rfl; exact toByteA10_gives hrow; exact rfl
    repeat' first | ((with_reducible apply WR.ia); exact rfl; exact rfl; exact rfl; omega)
    (with_reducible apply WR.st); exact rfl; exact rfl; exact rfl; exact storeRow (k := i * 10) hrow (by omega) (by rw [Int.toNat_natCast]; omega)
    repeat' first | ((with_reducible apply WR.mv); exact rfl; exact rfl) | ((with_reducible apply WR.nil)) | (with_reducible refine andThen_n ?_) | (with_reducible refine inB_n ?_) | (with_reducible refine W.region ?_) | ((with_reducible apply WR.ad); exact rfl; exact rfl; exact rfl; (first | exact i64_in _ (by omega)))
    exact ⟨_, by omega, i + 1, _, rfl, by omega, by rw [List.length_append, List.length_append, List.length_take, List.length_drop, hrow]; omega, by rw [show (i + 1) * 10 = i * 10 + 10 by omega, List.take_add (l := cs), List.take_left' (by rw [List.length_append, List.length_take, hrow]; omega), ht], rfl, rfl, rfl, rfl, rfl, rfl, rfl⟩
  · have hoc : out = cs := by
      rw [List.take_of_length_le (by omega), List.take_of_length_le (by omega)] at ht
      exact ht
    subst hoc
    (with_reducible apply WR.ld); exact rfl; exact rfl; exact rfl; exact loadC_all hl
    (with_reducible apply WR.st); exact rfl; exact rfl; exact rfl; exact storeAll hl rfl
    repeat' first | ((with_reducible apply WR.nil)) | (with_reducible refine andThen_n ?_) | (with_reducible refine W.ret ?_)
    exact Done.r (finish_c rfl rfl rfl hl rfl) rfl
theorem loadTail {c0 c1 : S} {r : List S} (hr : r.length = 100) : loadC 100 true (c0 :: c1 :: r) (0 + 2) = some (.a (.d (.agg r))) := by
  simp only [loadC, ofCells, av, List.length_cons, hr, Nat.zero_add, List.drop_succ_cons, List.drop_zero]
  rw [if_pos (by omega), List.take_of_length_le (by omega)]; rfl
theorem storeTail {p : Bool} {x y : S} {r zs : List S} (hr : r.length = 100) (hz : zs.length = 100) : storeO 100 (.a (.d (.agg r))) (0 + 2) (.flat p (x :: y :: zs)) = some (.flat p (x :: y :: r)) := by
  simp only [storeO, cellsOf, List.length_cons, hz, Nat.zero_add]
  rw [if_pos ⟨hr, by omega⟩]
  rw [List.drop_eq_nil_of_le (by simp [hz])]
  simp
theorem toLawn_gives {w h : Int} {g : Nat → Int} {cs : List S} (l : IsLawn w h g cs) : Gives G 9 [aa cs] ⟨[.agg cs], []⟩ := by
  have hl := l.len
  obtain ⟨c0, c1, r, rfl⟩ : ∃ c0 c1 r, cs = c0 :: c1 :: r := by
    match cs, hl with
    | c0 :: c1 :: r, _ => exact ⟨c0, c1, r, rfl⟩
  have hr : r.length = 100 := by simpa using hl
  refine Gives.by rfl rfl (W.seq ?_)
  repeat' first | ((with_reducible apply WR.fa); exact rfl; exact rfl) | ((with_reducible apply WR.ld); exact rfl; exact rfl; exact rfl; (first | exact lawn_w (by assumption) | exact lawn_h (by assumption))) | ((with_reducible apply WR.st); exact rfl; exact rfl; exact rfl; exact rfl) | ((with_reducible apply WR.nil)) | (with_reducible refine andThen_n ?_) | (with_reducible refine W.seq ?_) | (with_reducible refine W.region ?_) | ((with_reducible apply WR.al); exact rfl; (first | exact rfl)) | ((with_reducible apply WR.bx); exact rfl; exact rfl; exact IsLawn.len (by assumption); (first | exact rfl))
  have h0 : c0 = .int .i8 w := by simpa using l.w
  have h1 : c1 = .int .i8 h := by simpa using l.h
  (with_reducible apply WR.ld); exact rfl; exact rfl; exact rfl; exact loadTail hr
  (with_reducible apply WR.ca); exact rfl; exact rfl; exact rfl; exact rfl; exact toByteA10A10_gives hr; exact rfl
  repeat' first | ((with_reducible apply WR.fa); exact rfl; exact rfl)
  (with_reducible apply WR.st); exact rfl; exact rfl; exact rfl; exact storeTail (x := .int .i8 w) (y := .int .i8 h) (zs := List.replicate 100 (.int .u8 0)) hr rfl
  have hl' : (S.int .i8 w :: S.int .i8 h :: r).length = 102 := by simp [hr]
  repeat' first | ((with_reducible apply WR.nil)) | (with_reducible refine andThen_n ?_) | (with_reducible refine W.seq ?_) | (with_reducible refine W.region ?_)
  (with_reducible apply WR.ld); exact rfl; exact rfl; exact rfl; exact loadC_all hl'
  (with_reducible apply WR.st); exact rfl; exact rfl; exact rfl; exact storeAll hl' rfl
  repeat' first | ((with_reducible apply WR.nil)) | (with_reducible refine andThen_n ?_) | (with_reducible refine W.ret ?_)
  exact Done.r (finish_c rfl rfl rfl hl' rfl) (by rw [h0, h1])
end Go.DM
