/- The statements' own functions: copies of cells, lawns, levels. -/
import Derived.Test.YtaocbbdkiemhaaaK356NightsS
import Derived.Test.YtaocbbdkiemhaaaK356Loop
import Derived.Test.YtaocbbdkiemhaaaK356NightS
import Derived.Test.YtaocbbdkiemhaaaK356All
set_option linter.unusedSimpArgs false
set_option linter.unusedVariables false
namespace Go.DM
set_option linter.unusedSectionVars false
variable [Tok]
open Go.IntWalk
theorem storeOne {p : Bool} {cs : List S} {x : S} {off k : Nat} (hk : k < cs.length) (h : off = k) : storeO 1 (.a (.d (.s x))) off (.flat p cs) = some (.flat p (cs.set k x)) := by
  subst h
  simp only [storeO, cellsOf]
  rw [if_pos ⟨rfl, by omega⟩]
  congr 2
  rw [List.set_eq_take_append_cons_drop, if_pos hk]
  simp
theorem loadRow {cs : List S} {off k : Nat} (hk : k + 10 ≤ cs.length) (h : off = k) : loadC 10 true cs off = some (.a (.d (.agg ((cs.drop k).take 10)))) := by
  subst h
  simp only [loadC, ofCells, av]
  rw [if_pos hk]; rfl
theorem storeRow {p : Bool} {cs xs : List S} {off k : Nat} (hx : xs.length = 10) (hk : k + 10 ≤ cs.length) (h : off = k) : storeO 10 (.a (.d (.agg xs))) off (.flat p cs) = some (.flat p (cs.take k ++ xs ++ cs.drop (k + 10))) := by
  subst h
  simp only [storeO, cellsOf]
  rw [if_pos ⟨hx, hk⟩]
theorem loadTail {c0 c1 : S} {r : List S} (hr : r.length = 100) : loadC 100 true (c0 :: c1 :: r) (0 + 2) = some (.a (.d (.agg r))) := by
  simp only [loadC, ofCells, av, List.length_cons, hr, Nat.zero_add, List.drop_succ_cons, List.drop_zero]
  rw [if_pos (by omega), List.take_of_length_le (by omega)]; rfl
theorem storeTail {p : Bool} {x y : S} {r zs : List S} (hr : r.length = 100) (hz : zs.length = 100) : storeO 100 (.a (.d (.agg r))) (0 + 2) (.flat p (x :: y :: zs)) = some (.flat p (x :: y :: r)) := by
  simp only [storeO, cellsOf, List.length_cons, hz, Nat.zero_add]
  rw [if_pos ⟨hr, by omega⟩]
  rw [List.drop_eq_nil_of_le (by simp [hz])]
  simp
end Go.DM

/- What the statements do with rows of cells and of numbers: they are compared, marked, and looked at again. -/
set_option linter.unusedSimpArgs false
set_option linter.unusedVariables false
set_option maxHeartbeats 4000000
namespace Go.DM
set_option linter.unusedSectionVars false
variable [Tok]
open Go.IntWalk

def marks (k : Int) (n : Nat) : List Cel := (List.range n).map fun (i : Nat) => (IntKind.i8.wrap (k + 2 * (i : Nat)), IntKind.i8.wrap (k + 2 * (i : Nat) + 1))
theorem marks_len (k : Int) (n : Nat) : (marks k n).length = n := by simp [marks]
theorem marks_get {k : Int} {n i : Nat} (h : i < n) : (marks k n)[i]? = some (IntKind.i8.wrap (k + 2 * (i : Nat)), IntKind.i8.wrap (k + 2 * (i : Nat) + 1)) := by simp [marks, h]
theorem marks_gC {k : Int} {n i : Nat} (h : i < n) : gC (marks k n) i = (IntKind.i8.wrap (k + 2 * (i : Nat)), IntKind.i8.wrap (k + 2 * (i : Nat) + 1)) := by
  simp [gC, List.getD_eq_getElem?_getD, marks_get h]
theorem mark_step {m : List Cel} {i : Nat} {a b : Int} (h : i < m.length) : (m.set i (a, (gC m i).2)).set i ((gC (m.set i (a, (gC m i).2)) i).1, b) = m.set i (a, b) := by
  rw [List.set_set]; congr 2; simp [gC, List.getD_eq_getElem?_getD, h]
theorem take_set_succ {α : Type} {m r : List α} {i : Nat} {c : α} (hi : i < m.length) (hr : r[i]? = some c) (ht : m.take i = r.take i) : (m.set i c).take (i + 1) = r.take (i + 1) := by
  rw [List.take_add_one, List.take_add_one, List.take_set_of_le (Nat.le_refl _), List.getElem?_set_self hi, ht, hr]
def marksI (k : Int) (n : Nat) : List Int := (List.range n).map fun (i : Nat) => k + (i : Nat)
theorem marksI_len (k : Int) (n : Nat) : (marksI k n).length = n := by simp [marksI]
theorem marksI_get {k : Int} {n i : Nat} (h : i < n) : (marksI k n)[i]? = some (k + (i : Nat)) := by simp [marksI, h]
theorem marksI_gI {k : Int} {n i : Nat} (h : i < n) : gI (marksI k n) i = k + (i : Nat) := by
  simp [gI, List.getD_eq_getElem?_getD, marksI_get h]
end Go.DM

/- Some nights of a mole: the program's side, the statement. -/
set_option linter.unusedSimpArgs false
set_option linter.unusedVariables false
set_option maxHeartbeats 4000000
namespace Go.DM
set_option linter.unusedSectionVars false
variable [Tok]
open Go.IntWalk
variable {w h : Int} {g : Nat → Int} {cs : List S} {q : Nat → Int} {qs : List S}

theorem moles_ok (v : IsLev q qs) {a : Cel} {n : Int} (hc : molesCode w h g q a n = 0) : (w ≤ 10 ∧ h ≤ 10) ∧ (0 ≤ n ∧ n ≤ 60) ∧ (0 ≤ a.1 ∧ a.1 < 10 ∧ 0 ≤ a.2 ∧ a.2 < 10) ∧ (Mole.mk q qs a a).Ok := by
  obtain ⟨hL, ⟨hn, hH⟩, hI⟩ := belowCode_zero.1 hc
  have hs : w ≤ 10 ∧ h ≤ 10 := ⟨hL.1.1.2, hL.1.2.1.2⟩
  have ha : 0 ≤ a.1 ∧ a.1 < 10 ∧ 0 ≤ a.2 ∧ a.2 < 10 := by omega
  exact ⟨hs, hn, ha, v, ha⟩
theorem moleNights_ok (l : IsLawn w h g cs) (v : IsLev q qs) (a : Cel) (n : Int) (hc : molesCode w h g q a n = 0) : Gives G 164 [aa cs, aa qs, ac a.1 a.2, ai .i64 n] (molesRes w h g q qs a n) := by
  obtain ⟨hs, hn, ha, k0⟩ := moles_ok v hc
  have hcode : belowCode (LevOk w h g q) ((∀ c ∈ [a], Has w h c.1 c.2) ∧ 0 ≤ n ∧ n ≤ 60) (∀ c ∈ [a], Is w h g 0 c.1 c.2) = molesCode w h g q a n :=
    belowCode_congr Iff.rfl ⟨fun h => ⟨h.2, h.1 a (by simp)⟩, fun h => ⟨by simpa using h.2, h.1⟩⟩ (by simp)
  have hmc := moleCode_gives l v n [a] (by simp)
  rw [hcode, hc] at hmc
  have hng := nights_gives l hs v a ha n.toNat (by omega)
  rw [show ((n.toNat : Nat) : Int) = n by omega] at hng
  have hq := (k0.after (w := w) (h := h) (g := g) hs n.toNat).v
  unfold molesRes; rw [if_pos hc]
  generalize (Mole.mk q qs a a).path w h g n.toNat = pth at hng ⊢
  generalize (Mole.mk q qs a a).after w h g n.toNat = m at hng hq ⊢
  refine Gives.by rfl rfl (W.seq ?_)
  repeat' first | ((with_reducible apply WR.c_s (f := 25) (fn := Code.f25)); exact rfl; exact rfl; exact rfl; (first | exact rfl); (focus ((repeat' first | exact args_nil | apply args_d | exact toD_d rfl | exact toD_slC rfl rfl (by first | exact rfl) | exact all_nil | apply all_cons | exact rfl); done)); exact hmc) | ((with_reducible apply WR.c_ao (f := 26) (fn := Code.f26)); exact rfl; exact rfl; exact rfl; (first | exact rfl); (focus ((repeat' first | exact args_nil | apply args_d | exact toD_d rfl | exact toD_slC rfl rfl (by first | exact rfl) | exact all_nil | apply all_cons | exact rfl); done)); exact hng; (first | exact rfl)) | ((with_reducible apply WR.mv); exact rfl; exact rfl) | ((with_reducible apply WR.mvt); exact rfl; exact rfl) | ((with_reducible apply WR.ld); exact rfl; exact rfl; exact rfl; (first | exact ld2 | exact loadC_all (IsLawn.len (by assumption)) | exact loadC_all (IsLev.len (by assumption)))) | ((with_reducible apply WR.bx); exact rfl; exact rfl; exact (by first | exact List.length_replicate .. | exact encC_length _ | exact IsLev.len (by assumption) | exact IsLawn.len (by assumption) | exact rfl); (first | exact rfl)) | ((with_reducible apply WR.st); exact rfl; exact rfl; exact rfl; exact storeAll (by first | exact List.length_replicate .. | exact encC_length _ | exact IsLev.len (by assumption) | exact IsLawn.len (by assumption) | exact rfl) (by first | exact List.length_replicate .. | exact encC_length _ | exact IsLev.len (by assumption) | exact IsLawn.len (by assumption) | exact rfl)) | ((with_reducible apply WR.nil)) | (with_reducible refine andThen_n ?_) | (with_reducible refine W.seq ?_) | (with_reducible refine W.region ?_) | (with_reducible refine W.skip ?_) | (with_reducible refine W.ret ?_) | ((with_reducible apply W.condF); exact rfl) | ((with_reducible apply Done.f); (intro hh hh2; exact (nomatch hh2)); (focus ((repeat' first | exact all_nil | apply all_cons | exact res_tmp rfl | exact res_cell rfl rfl (by first | exact List.length_replicate .. | exact encC_length _ | exact IsLev.len (by assumption) | exact IsLawn.len (by assumption) | exact rfl) | exact rfl); done)); (focus ((repeat' first | exact all_nil | apply all_cons | exact retOf_s rfl | exact retOf_a rfl | exact retOf_o rfl rfl (by first | exact List.length_replicate .. | exact encC_length _ | exact IsLev.len (by assumption) | exact IsLawn.len (by assumption) | exact rfl) | exact rfl); done)); exact rfl; (focus ((repeat' first | exact outs_nil | apply outs_d | exact rfl); done))) | (intro hb; try (exfalso; omega)) | ((with_reducible apply WR.ex); exact rfl; exact rfl) | ((with_reducible apply WR.al); exact rfl; (first | exact rfl)) | ((with_reducible apply WR.neq); exact rfl; exact rfl; exact rfl) | ((with_reducible apply WR.bs1); exact rfl; exact rfl; (first | exact rfl))
  all_goals rfl
theorem moleNights_no (l : IsLawn w h g cs) (v : IsLev q qs) (a : Cel) (n : Int) (hc : ¬ molesCode w h g q a n = 0) : Gives G 164 [aa cs, aa qs, ac a.1 a.2, ai .i64 n] ⟨[.agg (List.replicate 100 (.int .i8 0)), .s .nils, .s (.int .i64 (molesCode w h g q a n))], []⟩ := by
  have hcode : belowCode (LevOk w h g q) ((∀ c ∈ [a], Has w h c.1 c.2) ∧ 0 ≤ n ∧ n ≤ 60) (∀ c ∈ [a], Is w h g 0 c.1 c.2) = molesCode w h g q a n :=
    belowCode_congr Iff.rfl ⟨fun h => ⟨h.2, h.1 a (by simp)⟩, fun h => ⟨by simpa using h.2, h.1⟩⟩ (by simp)
  have hmc := moleCode_gives l v n [a] (by simp)
  rw [hcode] at hmc
  refine Gives.by rfl rfl (W.seq ?_)
  repeat' first | ((with_reducible apply WR.c_s (f := 25) (fn := Code.f25)); exact rfl; exact rfl; exact rfl; (first | exact rfl); (focus ((repeat' first | exact args_nil | apply args_d | exact toD_d rfl | exact toD_slC rfl rfl (by first | exact rfl) | exact all_nil | apply all_cons | exact rfl); done)); exact hmc) | ((with_reducible apply WR.mv); exact rfl; exact rfl) | ((with_reducible apply WR.ld); exact rfl; exact rfl; exact rfl; (first | exact ld2 | exact loadC_all (IsLawn.len (by assumption)) | exact loadC_all (IsLev.len (by assumption)))) | ((with_reducible apply WR.bx); exact rfl; exact rfl; exact (by first | exact List.length_replicate .. | exact IsLev.len (by assumption) | exact IsLawn.len (by assumption) | exact rfl); (first | exact rfl)) | ((with_reducible apply WR.st); exact rfl; exact rfl; exact rfl; exact storeAll (by first | exact List.length_replicate .. | exact IsLev.len (by assumption) | exact IsLawn.len (by assumption) | exact rfl) (by first | exact List.length_replicate .. | exact IsLev.len (by assumption) | exact IsLawn.len (by assumption) | exact rfl)) | ((with_reducible apply WR.nil)) | (with_reducible refine andThen_n ?_) | (with_reducible refine andThen_r ?_) | (with_reducible refine W.seq ?_) | (with_reducible refine W.region ?_) | (with_reducible refine W.ret ?_) | ((with_reducible apply W.condT); exact rfl) | ((with_reducible apply Done.f); (intro hh hh2; exact (nomatch hh2)); (focus ((repeat' first | exact all_nil | apply all_cons | exact res_tmp rfl | exact res_cell rfl rfl (by first | exact List.length_replicate .. | exact IsLev.len (by assumption) | exact IsLawn.len (by assumption) | exact rfl) | exact rfl); done)); (focus ((repeat' first | exact all_nil | apply all_cons | exact retOf_s rfl | exact retOf_a rfl | exact rfl); done)); exact rfl; (focus ((repeat' first | exact outs_nil | apply outs_d | exact rfl); done))) | (intro hb; try (exfalso; omega)) | ((with_reducible apply WR.al); exact rfl; (first | exact rfl)) | ((with_reducible apply WR.neq); exact rfl; exact rfl; exact rfl) | ((with_reducible apply WR.bs1); exact rfl; exact rfl; (first | exact rfl)) | ((with_reducible apply WR.bu); exact rfl; exact rfl)
  all_goals rfl

end Go.DM

/- The cell with the greatest number: counting, both sides. -/
set_option linter.unusedSimpArgs false
set_option linter.unusedVariables false
set_option maxHeartbeats 4000000
namespace Go.DM
set_option linter.unusedSectionVars false
variable [Tok]
open Go.IntWalk
variable {w h : Int} {g : Nat → Int} {cs : List S} {q : Nat → Int} {qs : List S}
abbrev In9 (c : Cel) : Prop := 0 ≤ c.1 ∧ c.1 < 10 ∧ 0 ≤ c.2 ∧ c.2 < 10
def kC (c : Cel) : Nat := 10 * c.2.toNat + c.1.toNat
theorem kC_inj {c d : Cel} (hc : In9 c) (hd : In9 d) (e : kC c = kC d) : c = d := by
  unfold kC at e
  have h1 : c.1 = d.1 := by omega
  have h2 : c.2 = d.2 := by omega
  exact Prod.ext h1 h2
/-- How often a cell stands in a row. -/
def cntL : List Cel → Cel → Int
  | [], _ => 0
  | d :: r, c => (if d = c then 1 else 0) + cntL r c
theorem cntL_b : ∀ (L : List Cel) (c : Cel), 0 ≤ cntL L c ∧ cntL L c ≤ L.length
  | [], _ => ⟨Int.le_refl _, Int.le_refl _⟩
  | d :: r, c => by
    have := cntL_b r c
    simp only [cntL, List.length_cons]
    split <;> omega
theorem cntL_snoc (c d : Cel) : ∀ L : List Cel, cntL (L ++ [d]) c = cntL L c + if d = c then 1 else 0
  | [] => by simp [cntL]
  | e :: r => by simp only [List.cons_append, cntL, cntL_snoc c d r]; omega
def MF (L : List Cel) : List (Cel × Int) := L.foldl bumpM []
theorem MF_snoc (L : List Cel) (c : Cel) : MF (L ++ [c]) = bumpM (MF L) c := by simp [MF, List.foldl_append]
theorem MF_cnt : ∀ (n : Nat) (L : List Cel), L.length = n → ∀ c, cntM (MF L) c = cntL L c
  | 0, L, hl, c => by obtain rfl := List.eq_nil_of_length_eq_zero hl; rfl
  | n + 1, L, hl, c => by
    have hne : L ≠ [] := fun e => by rw [e] at hl; cases hl
    have e := List.dropLast_concat_getLast hne
    have ih := MF_cnt n L.dropLast (by simp [hl])
    rw [← e, MF_snoc, cntM_bump, cntL_snoc, ih, ih]
    by_cases hc : c = L.getLast hne
    · rw [if_pos hc, hc]; simp
    · rw [if_neg hc, if_neg (fun e => hc e.symm)]; omega
def QF (L : List Cel) : Nat → Int := L.foldl (fun q c => gset q (kC c) (q (kC c) + 1)) (fun _ => 0)
theorem QF_snoc (L : List Cel) (c : Cel) : QF (L ++ [c]) = gset (QF L) (kC c) (QF L (kC c) + 1) := by simp [QF, List.foldl_append]
theorem QF_cnt : ∀ (n : Nat) (L : List Cel), L.length = n → (∀ d ∈ L, In9 d) → ∀ c, In9 c → QF L (kC c) = cntL L c
  | 0, L, hl, _, c, _ => by obtain rfl := List.eq_nil_of_length_eq_zero hl; rfl
  | n + 1, L, hl, hI, c, hc => by
    have hne : L ≠ [] := fun e => by rw [e] at hl; cases hl
    have e := List.dropLast_concat_getLast hne
    have hI1 : ∀ d ∈ L.dropLast, In9 d := fun d hd => hI d (by rw [← e]; exact List.mem_append_left _ hd)
    have hI2 : In9 (L.getLast hne) := hI _ (List.getLast_mem hne)
    have ih := QF_cnt n L.dropLast (by simp [hl]) hI1
    rw [← e, QF_snoc, cntL_snoc, ← ih c hc]
    unfold gset
    by_cases hk : c = L.getLast hne
    · rw [← hk]; simp
    · rw [if_neg (fun e => hk (kC_inj hc hI2 e)), if_neg (fun e => hk e.symm)]; omega
/-- The first cell of the greatest number. -/
def mostF (f : Cel → Int) (A : List Cel) : Cel × Int := A.foldl (fun s c => if s.2 < f c then (c, f c) else s) ((0, 0), 0)
theorem mostF_snoc (f : Cel → Int) (A : List Cel) (c : Cel) : mostF f (A ++ [c]) = if (mostF f A).2 < f c then (c, f c) else mostF f A := by
  unfold mostF; rw [List.foldl_append]; rfl
theorem mostF_go {f f' : Cel → Int} : ∀ {A : List Cel} (s0 : Cel × Int), (∀ c ∈ A, f c = f' c) → A.foldl (fun s c => if s.2 < f c then (c, f c) else s) s0 = A.foldl (fun s c => if s.2 < f' c then (c, f' c) else s) s0
  | [], _, _ => rfl
  | c :: r, s0, h => by
    rw [List.foldl_cons, List.foldl_cons, h c (List.mem_cons_self ..)]
    exact mostF_go _ fun d hd => h d (List.mem_cons_of_mem _ hd)
theorem mostF_congr {f f' : Cel → Int} {A : List Cel} (h : ∀ c ∈ A, f c = f' c) : mostF f A = mostF f' A := mostF_go _ h
theorem all_in9 (hs : w ≤ 10 ∧ h ≤ 10) : ∀ c ∈ allC w h, In9 c := fun c hc => by
  have := allC_mem hc
  unfold In9; omega
theorem mostOf_gives (l : IsLawn w h g cs) (hs : 0 ≤ w ∧ w ≤ 10 ∧ 0 ≤ h ∧ h ≤ 10) (M : List (Cel × Int)) :
    Gives G 205 [aa cs, .d (.map KC (encM M))] ⟨[.agg [.int .i8 (mostF (cntM M) (allC w h)).1.1, .int .i8 (mostF (cntM M) (allC w h)).1.2], .s (.int .i64 (mostF (cntM M) (allC w h)).2)], []⟩ := by
  have hall := all_gives l hs
  have hal := allC_len (w := w) (h := h) (by omega)
  have hm9 := all_in9 (w := w) (h := h) ⟨hs.2.1, hs.2.2.2⟩
  generalize allC w h = A at hall hal hm9 ⊢
  refine Gives.by rfl rfl (W.seq ?_)
  repeat' first | ((with_reducible apply WR.c_o (f := 33) (fn := Code.f33)); exact rfl; exact rfl; exact rfl; (first | exact rfl); (focus ((repeat' first | exact args_nil | apply args_d | exact toD_d rfl | exact rfl); done)); exact hall; (first | exact rfl)) | ((with_reducible apply WR.mv); exact rfl; exact rfl) | ((with_reducible apply WR.ld); exact rfl; exact rfl; exact rfl; (first | exact loadC_all (IsLawn.len (by assumption)))) | ((with_reducible apply WR.al); exact rfl; (first | exact rfl)) | ((with_reducible apply WR.st); exact rfl; exact rfl; exact rfl; exact st2) | ((with_reducible apply WR.nil)) | (with_reducible refine andThen_n ?_) | (with_reducible refine W.seq ?_) | (with_reducible refine W.region ?_) | (with_reducible refine W.block ?_) | ((with_reducible apply WR.bx); exact rfl; exact rfl; exact (by first | exact IsLawn.len (by assumption) | exact rfl); (first | exact rfl)) | ((with_reducible apply WR.bu); exact rfl; exact rfl) | ((with_reducible apply WR.le); exact rfl; exact rfl)
  (refine (?_ : W _ (Code.loop _) _ _))
  (refine W.loopM [1, 4, 6, 12, 13] [4, 12] [9] (fun zz : (Nat) × (Int) × (Int) × (Int) => match zz with | (i, x, y, n) => (A.length - i : Nat)) (fun zz : (Nat) × (Int) × (Int) × (Int) => match zz with | (i, x, y, n) => (i ≤ A.length ∧ mostF (cntM M) (A.take i) = ((x, y), n) : Prop)) (fun zz : (Nat) × (Int) × (Int) × (Int) => match zz with | (i, x, y, n) => [(14, .a (.d (.s (.int .i64 (i : Nat))))), (7, .a (.d (.s (.int .i64 n))))]) (fun zz : (Nat) × (Int) × (Int) × (Int) => match zz with | (i, x, y, n) => [(6, .flat false ([.int .i8 x, .int .i8 y]))]) (0, 0, 0, 0) (⟨by omega, rfl⟩) ⟨rfl, rfl, trivial⟩ ⟨rfl, trivial⟩ ⟨(by (repeat' first | exact rfl | assumption | (with_reducible apply noPar_set) | ((with_reducible apply noPar_puto); exact rfl) | (with_reducible apply noPar_put) | (with_reducible apply noPar_putv) | (with_reducible apply noPar_putm) | (with_reducible apply noPar_kill) | ((with_reducible apply noPar_mix); exact rfl) | ((with_reducible apply noPar_mixT); exact rfl)); done), trivial⟩ ?_)
  rintro ⟨i, x, y, n⟩ σ hP hN; dsimp only [setL, putL] at hP ⊢; obtain ⟨n9, hN⟩ := hN
  obtain ⟨hi, hf⟩ := hP
  by_cases hil : i < A.length
  · have hst : A.take (i + 1) = A.take i ++ [gC A i] := by rw [List.take_add_one, gC_get hil]; rfl
    have hsn := mostF_snoc (cntM M) (A.take i) (gC A i)
    rw [← hst, hf] at hsn
    have h9 := hm9 _ (gC_mem hil)
    repeat' first | ((with_reducible apply WR.mgetd); exact rfl; exact rfl; exact rfl) | ((with_reducible apply WH.mgetd); exact rfl; exact rfl; exact rfl) | ((with_reducible apply WR.mv); exact rfl; exact rfl) | ((with_reducible apply WR.ld); exact rfl; exact rfl; exact rfl; (first | exact ld2 | exact ldC (by first | omega))) | ((with_reducible apply WR.al); exact rfl; (first | assumption)) | ((with_reducible apply WR.st); exact rfl; exact rfl; exact rfl; exact st2) | ((with_reducible apply WR.nil)) | (with_reducible refine andThen_n ?_) | (with_reducible refine inB_n ?_) | (with_reducible refine W.seq ?_) | (with_reducible refine W.region ?_) | (with_reducible refine W.skip ?_) | (with_reducible refine W.block ?_) | ((with_reducible apply W.condT); exact rfl) | ((with_reducible apply W.condF); exact rfl) | ((with_reducible apply WH.nil)) | (with_reducible refine W.draw ?_) | (intro hb; try (exfalso; omega)) | ((with_reducible apply WH.mv); exact rfl; exact rfl; exact rfl) | ((with_reducible apply WH.ld); exact rfl; exact rfl; exact rfl; (first | exact ld2 | exact ldC (by first | omega)); exact rfl) | ((with_reducible apply WR.lss); exact rfl; exact rfl; exact rfl) | ((with_reducible apply WR.gtr); exact rfl; exact rfl; exact rfl) | ((with_reducible apply WR.ad); exact rfl; exact rfl; exact rfl; (first | exact i64_in _ (by omega) | assumption)) | ((with_reducible apply WR.isn); exact rfl; exact rfl; exact rfl; omega) | ((with_reducible apply WH.st); exact rfl; exact rfl; exact rfl; exact st2; exact rfl; exact rfl)
    · (refine W.nxt ((i + 1, (gC A i).1, (gC A i).2, cntM M ((gC A i).1, (gC A i).2))) (by first | omega | (dsimp only; omega)) ?_ ⟨rfl, rfl, trivial⟩ ⟨rfl, trivial⟩ ⟨rfl, rfl, rfl, rfl, rfl, trivial⟩ ⟨rfl, rfl, trivial⟩ ⟨(by (repeat' first | exact rfl | assumption | (with_reducible apply noPar_set) | ((with_reducible apply noPar_puto); exact rfl) | (with_reducible apply noPar_put) | (with_reducible apply noPar_putv) | (with_reducible apply noPar_putm) | (with_reducible apply noPar_kill) | ((with_reducible apply noPar_mix); exact rfl) | ((with_reducible apply noPar_mixT); exact rfl)); done), trivial⟩); (try dsimp only)
      refine ⟨by omega, ?_⟩
      rw [hsn]
      exact if_pos (by assumption)
    · (refine W.nxt ((i + 1, x, y, n)) (by first | omega | (dsimp only; omega)) ?_ ⟨rfl, rfl, trivial⟩ ⟨rfl, trivial⟩ ⟨rfl, rfl, rfl, rfl, rfl, trivial⟩ ⟨rfl, rfl, trivial⟩ ⟨(by (repeat' first | exact rfl | assumption | (with_reducible apply noPar_set) | ((with_reducible apply noPar_puto); exact rfl) | (with_reducible apply noPar_put) | (with_reducible apply noPar_putv) | (with_reducible apply noPar_putm) | (with_reducible apply noPar_kill) | ((with_reducible apply noPar_mix); exact rfl) | ((with_reducible apply noPar_mixT); exact rfl)); done), trivial⟩); (try dsimp only)
      refine ⟨by omega, ?_⟩
      rw [hsn]
      exact if_neg (by assumption)
  · obtain rfl : i = A.length := by omega
    rw [List.take_of_length_le (by omega)] at hf
    rw [hf]
    repeat' first | ((with_reducible apply WR.mv); exact rfl; exact rfl) | ((with_reducible apply WR.ld); exact rfl; exact rfl; exact rfl; (first | exact ld2)) | ((with_reducible apply WR.st); exact rfl; exact rfl; exact rfl; exact st2) | ((with_reducible apply WR.nil)) | (with_reducible refine andThen_n ?_) | (with_reducible refine andThen_x ?_) | (with_reducible refine inB_x ?_) | (with_reducible refine W.seq ?_) | (with_reducible refine W.region ?_) | (with_reducible refine W.ret ?_) | (with_reducible refine W.exit ?_) | ((with_reducible apply W.condF); exact rfl) | ((with_reducible apply Done.f); (intro hh hh2; exact (nomatch hh2)); (focus ((repeat' first | exact all_nil | apply all_cons | exact res_tmp rfl | exact res_cell rfl rfl (by first | exact rfl) | exact rfl); done)); (focus ((repeat' first | exact all_nil | apply all_cons | exact retOf_s rfl | exact retOf_a rfl | exact rfl); done)); exact rfl; (focus ((repeat' first | exact outs_nil | apply outs_d | exact rfl); done))) | (intro hb; try (exfalso; omega)) | ((with_reducible apply WR.lss); exact rfl; exact rfl; exact rfl)
    rfl
end Go.DM
