/- What the statements do with rows of cells and of numbers: they are compared, marked, and looked at again. -/
import Derived.Test.YtaocbbdkiemhaaaK139Loop
import Derived.Test.YtaocbbdkiemhaaaK139NightsS
import Derived.Test.YtaocbbdkiemhaaaK139Laws
import Derived.Test.YtaocbbdkiemhaaaK139MapR
import Derived.Test.YtaocbbdkiemhaaaK139Those
import Derived.Test.YtaocbbdkiemhaaaK139NightOf
set_option linter.unusedSimpArgs false
set_option linter.unusedVariables false
set_option maxHeartbeats 4000000
namespace Go.DM
set_option linter.unusedSectionVars false
variable [Tok]
open Go.IntWalk

theorem eqCell_gives (x y x' y' : Int) : Gives G 161 [ac x y, ac x' y'] (rb (decide (x = x' ∧ y = y'))) := by
  refine Gives.by rfl rfl (W.seq ?_)
  repeat' first | ((with_reducible apply WR.mv); exact rfl; exact rfl) | ((with_reducible apply WR.lx); exact rfl; exact rfl) | ((with_reducible apply WR.fa); exact rfl; exact rfl) | ((with_reducible apply WR.nil)) | (with_reducible refine andThen_n ?_) | (with_reducible refine andThen_r ?_) | (with_reducible refine W.seq ?_) | (with_reducible refine W.region ?_) | (with_reducible refine W.skip ?_) | (with_reducible refine W.ret ?_) | ((with_reducible apply W.condT); exact rfl) | ((with_reducible apply W.condF); exact rfl) | ((with_reducible apply Done.f); (intro hh hh2; exact (nomatch hh2)); (focus ((repeat' first | exact all_nil | apply all_cons | exact res_tmp rfl | exact rfl); done)); (focus ((repeat' first | exact all_nil | apply all_cons | exact retOf_s rfl | exact rfl); done)); exact rfl; (focus ((repeat' first | exact outs_nil | apply outs_d | exact rfl); done))) | (intro hb; try (exfalso; omega)) | ((with_reducible apply WR.neq); exact rfl; exact rfl; exact rfl) | ((with_reducible apply WR.bx); exact rfl; exact rfl; exact (by first | exact rfl); (first | exact rfl))
  all_goals first | rfl | exact rb_t (by first | assumption | omega | (simp only [Is] at *; omega)) | exact rb_f (by first | assumption | omega | (simp only [Is] at *; omega))
theorem eqCellS_gives (l : List Cel) (hl : l.length ≤ 100000) : Gives G 154 [asl l, asl l] (rb true) := by
  refine Gives.by rfl rfl (W.seq ?_)
  repeat' first | ((with_reducible apply WR.mv); exact rfl; exact rfl) | ((with_reducible apply WR.le); exact rfl; exact rfl) | ((with_reducible apply WR.nil)) | (with_reducible refine andThen_n ?_) | (with_reducible refine W.seq ?_) | (with_reducible refine W.region ?_) | (with_reducible refine W.skip ?_) | (with_reducible refine W.block ?_) | ((with_reducible apply W.condF); exact rfl) | (intro hb; try (exfalso; omega)) | ((with_reducible apply WR.neq); exact rfl; exact rfl; exact rfl)
  (refine (?_ : W _ (Code.loop _) _ _))
  (refine W.loopM [0, 1] [] [] (fun i : (Nat) => (l.length - i : Nat)) (fun i : (Nat) => (i ≤ l.length : Prop)) (fun i : (Nat) => [(5, .a (.d (.s (.int .i64 (i : Nat)))))]) (fun i : (Nat) => []) 0 (by (try dsimp only); first | omega | exact trivial | exact ⟨by omega, rfl⟩ | exact ⟨by omega, by omega, rfl⟩ | (refine ⟨by omega, ?_⟩; simp; done) | (simp; done)) ⟨rfl, trivial⟩ trivial trivial ?_)
  rintro i σ hP hN; dsimp only [setL, putL] at hP ⊢
  repeat' first | ((with_reducible apply WH.c_p (f := 161) (fn := Code.f161)); exact rfl; exact rfl; exact rfl; (first | exact rfl); (focus ((repeat' first | exact args_nil | apply args_d | exact toD_d rfl | exact all_nil | apply all_cons | exact rfl); done)); exact eqCell_gives _ _ _ _) | ((with_reducible apply WR.mv); exact rfl; exact rfl) | ((with_reducible apply WH.mv); exact rfl; exact rfl; exact rfl) | ((with_reducible apply WR.le); exact rfl; exact rfl) | ((with_reducible apply WR.nil)) | (with_reducible refine andThen_n ?_) | (with_reducible refine andThen_x ?_) | (with_reducible refine inB_n ?_) | (with_reducible refine inB_x ?_) | (with_reducible refine W.seq ?_) | (with_reducible refine W.region ?_) | (with_reducible refine W.skip ?_) | (with_reducible refine W.ret ?_) | (with_reducible refine W.exit ?_) | (with_reducible refine W.block ?_) | ((with_reducible apply W.condT); exact rfl) | ((with_reducible apply W.condF); exact rfl) | ((with_reducible apply Done.f); (intro hh hh2; exact (nomatch hh2)); (focus ((repeat' first | exact all_nil | apply all_cons | exact res_tmp rfl | exact rfl); done)); (focus ((repeat' first | exact all_nil | apply all_cons | exact retOf_s rfl | exact rfl); done)); exact rfl; (focus ((repeat' first | exact outs_nil | apply outs_d | exact rfl); done))) | ((with_reducible apply WH.nil)) | (with_reducible refine W.draw ?_) | (intro hb; try (exfalso; omega)) | ((with_reducible apply WH.idn); exact rfl; exact rfl; exact rfl; omega; (first | exact Nat.le_of_eq (encC_length _).symm); exact rfl) | ((with_reducible apply WH.ldd); exact rfl; exact rfl; (first | exact ldCd (by first | omega)); exact rfl) | ((with_reducible apply WR.lss); exact rfl; exact rfl; exact rfl) | ((with_reducible apply WR.ad); exact rfl; exact rfl; exact rfl; (first | exact i64_in _ (by omega))) | ((with_reducible apply WH.un); exact rfl; exact rfl; exact rfl)
  · (refine W.nxt (i + 1) (by first | omega | (dsimp only; omega)) ?_ ⟨rfl, trivial⟩ trivial ⟨rfl, rfl, trivial⟩ trivial trivial); (try dsimp only)
    omega
  · rfl
theorem eqCellS0_gives : Gives G 154 [.d (.s .nils), .d (.sl 0 2 [])] (rb true) := by
  refine Gives.by rfl rfl (W.seq ?_)
  repeat' first | (with_reducible refine W.loop ?_) | ((with_reducible apply WR.mv); exact rfl; exact rfl) | ((with_reducible apply WR.le); exact rfl; exact rfl) | ((with_reducible apply WR.nil)) | (with_reducible refine andThen_n ?_) | (with_reducible refine andThen_x ?_) | (with_reducible refine inB_x ?_) | (with_reducible refine W.seq ?_) | (with_reducible refine W.region ?_) | (with_reducible refine W.skip ?_) | (with_reducible refine W.ret ?_) | (with_reducible refine W.exit ?_) | (with_reducible refine W.block ?_) | ((with_reducible apply W.condF); exact rfl) | ((with_reducible apply Done.f); (intro hh hh2; exact (nomatch hh2)); (focus ((repeat' first | exact all_nil | apply all_cons | exact res_tmp rfl); done)); (focus ((repeat' first | exact all_nil | apply all_cons | exact retOf_s rfl); done)); exact rfl; (focus ((repeat' first | exact outs_nil | apply outs_d); done))) | (intro hb; try (exfalso; omega)) | ((with_reducible apply WR.lss); exact rfl; exact rfl; exact rfl) | ((with_reducible apply WR.neq); exact rfl; exact rfl; exact rfl)
  all_goals rfl
def marks (k : Int) (n : Nat) : List Cel := (List.range n).map fun (i : Nat) => (IntKind.i8.wrap (k + 2 * (i : Nat)), IntKind.i8.wrap (k + 2 * (i : Nat) + 1))
theorem marks_len (k : Int) (n : Nat) : (marks k n).length = n := by simp [marks]
theorem marks_get {k : Int} {n i : Nat} (h : i < n) : (marks k n)[i]? = some (IntKind.i8.wrap (k + 2 * (i : Nat)), IntKind.i8.wrap (k + 2 * (i : Nat) + 1)) := by simp [marks, h]
theorem marks_gC {k : Int} {n i : Nat} (h : i < n) : gC (marks k n) i = (IntKind.i8.wrap (k + 2 * (i : Nat)), IntKind.i8.wrap (k + 2 * (i : Nat) + 1)) := by
  simp [gC, List.getD_eq_getElem?_getD, marks_get h]
theorem mark_step {m : List Cel} {i : Nat} {a b : Int} (h : i < m.length) : (m.set i (a, (gC m i).2)).set i ((gC (m.set i (a, (gC m i).2)) i).1, b) = m.set i (a, b) := by
  rw [List.set_set]; congr 2; simp [gC, List.getD_eq_getElem?_getD, h]
theorem take_set_succ {α : Type} {m r : List α} {i : Nat} {c : α} (hi : i < m.length) (hr : r[i]? = some c) (ht : m.take i = r.take i) : (m.set i c).take (i + 1) = r.take (i + 1) := by
  rw [List.take_add_one, List.take_add_one, List.take_set_of_le (Nat.le_refl _), List.getElem?_set_self hi, ht, hr]
def marksI (k : Int) (n : Nat) : List Int := (List.range n).map fun (i : Nat) => k + (i : Nat)
theorem marksI_len (k : Int) (n : Nat) : (marksI k n).length = n := by simp [marksI]
theorem marksI_get {k : Int} {n i : Nat} (h : i < n) : (marksI k n)[i]? = some (k + (i : Nat)) := by simp [marksI, h]
theorem marksI_gI {k : Int} {n i : Nat} (h : i < n) : gI (marksI k n) i = k + (i : Nat) := by
  simp [gI, List.getD_eq_getElem?_getD, marksI_get h]
end Go.DM

/- Some nights of a mole: the program's side, the statement. -/
set_option linter.unusedSimpArgs false
set_option linter.unusedVariables false
set_option maxHeartbeats 4000000
namespace Go.DM
set_option linter.unusedSectionVars false
variable [Tok]
open Go.IntWalk
variable {w h : Int} {g : Nat → Int} {cs : List S} {q : Nat → Int} {qs : List S}

theorem moles_ok (v : IsLev q qs) {a : Cel} {n : Int} (hc : molesCode w h g q a n = 0) : (w ≤ 10 ∧ h ≤ 10) ∧ (0 ≤ n ∧ n ≤ 60) ∧ (0 ≤ a.1 ∧ a.1 < 10 ∧ 0 ≤ a.2 ∧ a.2 < 10) ∧ (Mole.mk q qs a a).Ok := by
  obtain ⟨hL, ⟨hn, hH⟩, hI⟩ := belowCode_zero.1 hc
  have hs : w ≤ 10 ∧ h ≤ 10 := ⟨hL.1.1.2, hL.1.2.1.2⟩
  have ha : 0 ≤ a.1 ∧ a.1 < 10 ∧ 0 ≤ a.2 ∧ a.2 < 10 := by omega
  exact ⟨hs, hn, ha, v, ha⟩
end Go.DM

/- The cell with the greatest number: counting, both sides. -/
set_option linter.unusedSimpArgs false
set_option linter.unusedVariables false
set_option maxHeartbeats 4000000
namespace Go.DM
set_option linter.unusedSectionVars false
variable [Tok]
open Go.IntWalk
variable {w h : Int} {g : Nat → Int} {cs : List S} {q : Nat → Int} {qs : List S}
abbrev In9 (c : Cel) : Prop := 0 ≤ c.1 ∧ c.1 < 10 ∧ 0 ≤ c.2 ∧ c.2 < 10
def kC (c : Cel) : Nat := 10 * c.2.toNat + c.1.toNat
theorem kC_inj {c d : Cel} (hc : In9 c) (hd : In9 d) (e : kC c = kC d) : c = d := by
  unfold kC at e
  have h1 : c.1 = d.1 := by omega
  have h2 : c.2 = d.2 := by omega
  exact Prod.ext h1 h2
/-- How often a cell stands in a row. -/
def cntL : List Cel → Cel → Int
  | [], _ => 0
  | d :: r, c => (if d = c then 1 else 0) + cntL r c
theorem cntL_b : ∀ (L : List Cel) (c : Cel), 0 ≤ cntL L c ∧ cntL L c ≤ L.length
  | [], _ => ⟨Int.le_refl _, Int.le_refl _⟩
  | d :: r, c => by
    have := cntL_b r c
    simp only [cntL, List.length_cons]
    split <;> omega
theorem cntL_snoc (c d : Cel) : ∀ L : List Cel, cntL (L ++ [d]) c = cntL L c + if d = c then 1 else 0
  | [] => by simp [cntL]
  | e :: r => by simp only [List.cons_append, cntL, cntL_snoc c d r]; omega
def MF (L : List Cel) : List (Cel × Int) := L.foldl bumpM []
theorem MF_snoc (L : List Cel) (c : Cel) : MF (L ++ [c]) = bumpM (MF L) c := by simp [MF, List.foldl_append]
theorem MF_cnt : ∀ (n : Nat) (L : List Cel), L.length = n → ∀ c, cntM (MF L) c = cntL L c
  | 0, L, hl, c => by obtain rfl := List.eq_nil_of_length_eq_zero hl; rfl
  | n + 1, L, hl, c => by
    have hne : L ≠ [] := fun e => by rw [e] at hl; cases hl
    have e := List.dropLast_concat_getLast hne
    have ih := MF_cnt n L.dropLast (by simp [hl])
    rw [← e, MF_snoc, cntM_bump, cntL_snoc, ih, ih]
    by_cases hc : c = L.getLast hne
    · rw [if_pos hc, hc]; simp
    · rw [if_neg hc, if_neg (fun e => hc e.symm)]; omega
def QF (L : List Cel) : Nat → Int := L.foldl (fun q c => gset q (kC c) (q (kC c) + 1)) (fun _ => 0)
theorem QF_snoc (L : List Cel) (c : Cel) : QF (L ++ [c]) = gset (QF L) (kC c) (QF L (kC c) + 1) := by simp [QF, List.foldl_append]
theorem QF_cnt : ∀ (n : Nat) (L : List Cel), L.length = n → (∀ d ∈ L, In9 d) → ∀ c, In9 c → QF L (kC c) = cntL L c
  | 0, L, hl, _, c, _ => by obtain rfl := List.eq_nil_of_length_eq_zero hl; rfl
  | n + 1, L, hl, hI, c, hc => by
    have hne : L ≠ [] := fun e => by rw [e] at hl; cases hl
    have e := List.dropLast_concat_getLast hne
    have hI1 : ∀ d ∈ L.dropLast, In9 d := fun d hd => hI d (by rw [← e]; exact List.mem_append_left _ hd)
    have hI2 : In9 (L.getLast hne) := hI _ (List.getLast_mem hne)
    have ih := QF_cnt n L.dropLast (by simp [hl]) hI1
    rw [← e, QF_snoc, cntL_snoc, ← ih c hc]
    unfold gset
    by_cases hk : c = L.getLast hne
    · rw [← hk]; simp
    · rw [if_neg (fun e => hk (kC_inj hc hI2 e)), if_neg (fun e => hk e.symm)]; omega
/-- The first cell of the greatest number. -/
def mostF (f : Cel → Int) (A : List Cel) : Cel × Int := A.foldl (fun s c => if s.2 < f c then (c, f c) else s) ((0, 0), 0)
theorem mostF_snoc (f : Cel → Int) (A : List Cel) (c : Cel) : mostF f (A ++ [c]) = if (mostF f A).2 < f c then (c, f c) else mostF f A := by
  unfold mostF; rw [List.foldl_append]; rfl
theorem mostF_go {f f' : Cel → Int} : ∀ {A : List Cel} (s0 : Cel × Int), (∀ c ∈ A, f c = f' c) → A.foldl (fun s c => if s.2 < f c then (c, f c) else s) s0 = A.foldl (fun s c => if s.2 < f' c then (c, f' c) else s) s0
  | [], _, _ => rfl
  | c :: r, s0, h => by
    rw [List.foldl_cons, List.foldl_cons, h c (List.mem_cons_self ..)]
    exact mostF_go _ fun d hd => h d (List.mem_cons_of_mem _ hd)
theorem mostF_congr {f f' : Cel → Int} {A : List Cel} (h : ∀ c ∈ A, f c = f' c) : mostF f A = mostF f' A := mostF_go _ h
theorem all_in9 (hs : w ≤ 10 ∧ h ≤ 10) : ∀ c ∈ allC w h, In9 c := fun c hc => by
  have := allC_mem hc
  unfold In9; omega
end Go.DM

/- The cell at which a mole is most often: both sides, the statement. -/
set_option linter.unusedSimpArgs false
set_option linter.unusedVariables false
set_option maxHeartbeats 4000000
namespace Go.DM
set_option linter.unusedSectionVars false
variable [Tok]
open Go.IntWalk
variable {w h : Int} {g : Nat → Int} {cs : List S} {q : Nat → Int} {qs : List S}
theorem path_in9 (hs : w ≤ 10 ∧ h ≤ 10) {m : Mole} (k : m.Ok) : ∀ n, ∀ c ∈ m.path w h g n, In9 c
  | 0, c, hc => by
    simp only [Mole.path, List.mem_singleton] at hc
    subst hc; exact k.a
  | n + 1, c, hc => by
    simp only [Mole.path, List.mem_append, List.mem_singleton] at hc
    rcases hc with hc | hc
    · exact path_in9 hs k n c hc
    · subst hc; exact (k.after hs (n + 1)).a
theorem ldC1 {l : List Cel} {k : Nat} (hk : k + 1 < l.length) : loadC 2 true (encC l) (0 + 1 * 2 + k * 2) = some (.a (.d (.agg [.int .i8 (gC l (k + 1)).1, .int .i8 (gC l (k + 1)).2]))) := by
  rw [show 0 + 1 * 2 + k * 2 = 0 + (k + 1) * 2 by omega]; exact ldC hk
theorem drop_take {l : List Cel} {i : Nat} (h : i + 1 < l.length) : (l.drop 1).take (i + 1) = (l.drop 1).take i ++ [gC l (i + 1)] := by
  rw [List.take_add_one, List.getElem?_drop, Nat.add_comm 1 i, gC_get h]; rfl
theorem mf_b (L : List Cel) (c : Cel) : 0 ≤ cntM (MF L) c ∧ cntM (MF L) c ≤ L.length := by
  rw [MF_cnt _ L rfl]; exact cntL_b L c
def mvRes (w h : Int) (g q : Nat → Int) (qs : List S) (a : Cel) (n : Int) : Res :=
  if molesCode w h g q a n = 0 then (if n = 0 then ⟨[.agg [.int .i8 0, .int .i8 0], .s (.int .i64 0), .s (.int .i64 6)], []⟩ else
    ⟨[.agg [.int .i8 (mostF (cntL (((Mole.mk q qs a a).path w h g n.toNat).drop 1)) (allC w h)).1.1, .int .i8 (mostF (cntL (((Mole.mk q qs a a).path w h g n.toNat).drop 1)) (allC w h)).1.2],
      .s (.int .i64 (mostF (cntL (((Mole.mk q qs a a).path w h g n.toNat).drop 1)) (allC w h)).2), .s (.int .i64 0)], []⟩)
  else ⟨[.agg [.int .i8 0, .int .i8 0], .s (.int .i64 0), .s (.int .i64 (molesCode w h g q a n))], []⟩
theorem most_map (L A : List Cel) : mostF (cntM (MF L)) A = mostF (cntL L) A := mostF_congr fun c _ => MF_cnt _ L rfl c
end Go.DM
