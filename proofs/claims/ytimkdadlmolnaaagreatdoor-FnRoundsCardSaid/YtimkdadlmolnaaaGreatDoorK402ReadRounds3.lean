/- Rounds are read from their text: the plain part. -/
import Derived.Test.YtimkdadlmolnaaaGreatDoorK402Beside
import Derived.Test.YtimkdadlmolnaaaGreatDoorK402RoundsText
import Derived.Test.YtimkdadlmolnaaaGreatDoorK402RowsText
import Derived.Test.YtimkdadlmolnaaaGreatDoorK402Loop
set_option linter.unusedSectionVars false
set_option linter.unusedSimpArgs false
set_option linter.unusedVariables false
set_option maxHeartbeats 4000000
namespace Go.DM
variable [Tok]
open Go.IntWalk
def rdW (w : List UInt8) : Rnd := (gB w 1 - 48, decide (gB w 0 = 104))
def pW (w : List UInt8) : Rnd := (numL (w.drop 1), decide (gB w 0 = 104))
def rdA (s : List UInt8) : List Rnd := if s = [] then [] else (pieces 32 s).map rdW
def GoodR (s : List UInt8) : Prop := RndOk (rdA s) ∧ toldT (rdA s) = s
theorem digit_cases {n : Int} (h : 0 ≤ n ∧ n ≤ 9) : n = 0 ∨ n = 1 ∨ n = 2 ∨ n = 3 ∨ n = 4 ∨ n = 5 ∨ n = 6 ∨ n = 7 ∨ n = 8 ∨ n = 9 := by omega
theorem numL_digit {n : Int} (h : 0 ≤ n ∧ n ≤ 9) : numL [UInt8.ofNat (48 + n.toNat)] = n := by
  rcases digit_cases h with rfl | rfl | rfl | rfl | rfl | rfl | rfl | rfl | rfl | rfl <;> rfl
theorem byte_digit {n : Int} (h : 0 ≤ n ∧ n ≤ 9) : ((UInt8.ofNat (48 + n.toNat)).toNat : Int) - 48 = n := by
  rcases digit_cases h with rfl | rfl | rfl | rfl | rfl | rfl | rfl | rfl | rfl | rfl <;> rfl
theorem oneT_len (r : Rnd) : (oneT r).length = 2 := rfl
theorem head_oneT (r : Rnd) : decide (gB (oneT r) 0 = 104) = r.2 := by
  obtain ⟨x, y⟩ := r
  cases y <;> rfl
theorem rdW_oneT {r : Rnd} (h : 0 ≤ r.1 ∧ r.1 ≤ 9) : rdW (oneT r) = r := by
  refine Prod.ext ?_ (head_oneT r)
  exact byte_digit h
theorem pW_oneT {r : Rnd} (h : 0 ≤ r.1 ∧ r.1 ≤ 9) : pW (oneT r) = r := by
  refine Prod.ext ?_ (head_oneT r)
  exact numL_digit h
theorem oneT_32 {r : Rnd} (h : 0 ≤ r.1 ∧ r.1 ≤ 9) : (32 : UInt8) ∉ oneT r := by
  obtain ⟨x, y⟩ := r
  simp only at h
  rcases digit_cases h with rfl | rfl | rfl | rfl | rfl | rfl | rfl | rfl | rfl | rfl <;> cases y <;> decide
theorem unp_join (c : UInt8) : ∀ ls : List (List UInt8), unp c ls = Lib.join ls [c]
  | [] => rfl
  | [p] => by rw [Lib.join_one]; rfl
  | p :: q :: r => by
    have ih := unp_join c (q :: r)
    rw [Lib.join_cons] at ih ⊢
    simp only [unp, ih, Lib.joinTail, List.map_cons, List.flatten_cons]
    simp
theorem pieces_miss_all {c : UInt8} : ∀ {p : List UInt8}, c ∉ p → pieces c p = [p]
  | [], _ => rfl
  | b :: r, h => by
    have h1 : b ≠ c := fun e => h (by simp [e])
    have ih := pieces_miss_all (c := c) (p := r) (fun hh => h (by simp [hh]))
    obtain ⟨p, ps, e1, e2⟩ := pieces_miss h1 r
    rw [e2]; rw [ih] at e1; cases e1; rfl
theorem pieces_piece {c : UInt8} {t : List UInt8} : ∀ {p : List UInt8}, c ∉ p → pieces c (p ++ c :: t) = p :: pieces c t
  | [], _ => pieces_hit c t
  | b :: r, h => by
    have h1 : b ≠ c := fun e => h (by simp [e])
    have ih := pieces_piece (c := c) (t := t) (p := r) (fun hh => h (by simp [hh]))
    obtain ⟨p, ps, e1, e2⟩ := pieces_miss h1 (r ++ c :: t)
    show pieces c (b :: (r ++ c :: t)) = _
    rw [e2]; rw [ih] at e1; cases e1; rfl
theorem pieces_unp {c : UInt8} : ∀ {ls : List (List UInt8)}, ls ≠ [] → (∀ p ∈ ls, c ∉ p) → pieces c (unp c ls) = ls
  | [], h, _ => absurd rfl h
  | [p], _, h => pieces_miss_all (h p (by simp))
  | p :: q :: r, _, h => by
    have ih := pieces_unp (c := c) (ls := q :: r) (by simp) (fun x hx => h x (by simp at hx ⊢; right; exact hx))
    show pieces c (p ++ c :: unp c (q :: r)) = _
    rw [pieces_piece (h p (by simp)), ih]
theorem told_pieces {l : List Rnd} (h : ∀ r ∈ l, 0 ≤ r.1 ∧ r.1 ≤ 9) (h0 : l ≠ []) : pieces 32 (toldT l) = l.map oneT := by
  unfold toldT
  rw [← unp_join, pieces_unp (by simpa using h0)]
  intro p hp
  obtain ⟨r, hr, rfl⟩ := List.mem_map.1 hp
  exact oneT_32 (h r hr)
theorem map_id {α : Type} {f : α → α} : ∀ {l : List α}, (∀ x ∈ l, f x = x) → l.map f = l
  | [], _ => rfl
  | a :: l, h => by rw [List.map_cons, h a (List.mem_cons_self ..), map_id fun x hx => h x (List.mem_cons_of_mem _ hx)]
theorem told_ne {l : List Rnd} (h0 : l ≠ []) : toldT l ≠ [] := by
  cases l with
  | nil => exact absurd rfl h0
  | cons r l =>
    unfold toldT
    rw [List.map_cons, Lib.join_cons]
    simp [oneT]
theorem rdA_told {l : List Rnd} (h : RndOk l) : rdA (toldT l) = l := by
  by_cases h0 : l = []
  · subst h0; rfl
  · rw [rdA, if_neg (told_ne h0), told_pieces h.1 h0, List.map_map]
    exact map_id fun r hr => rdW_oneT (h.1 r hr)
theorem goodR_told {l : List Rnd} (h : RndOk l) {s : List UInt8} (e : toldT l = s) : GoodR s ∧ rdA s = l := by
  subst e
  rw [GoodR, rdA_told h]
  exact ⟨⟨h, rfl⟩, rfl⟩
theorem goodR_words {s : List UInt8} (h0 : s ≠ []) (g : GoodR s) : pieces 32 s = (rdA s).map oneT := by
  have hn : rdA s ≠ [] := fun e => h0 (by have := g.2; rw [e] at this; exact this.symm)
  conv => lhs; rw [← g.2]
  exact told_pieces g.1.1 hn
theorem goodR_word {s : List UInt8} {ls : List (List UInt8)} (h0 : s ≠ []) (hls : pieces 32 s = ls) (g : GoodR s) {i : Nat} (hi : i < ls.length) : ∃ r : Rnd, (0 ≤ r.1 ∧ r.1 ≤ 9) ∧ gS ls i = oneT r := by
  have h := goodR_words h0 g
  rw [hls] at h
  have hl : ls.length = (rdA s).length := by rw [h, List.length_map]
  refine ⟨gO (rdA s) i, g.1.1 _ (gO_mem (by omega)), ?_⟩
  rw [h]
  have e := gO_get (show i < (rdA s).length by omega)
  generalize gO (rdA s) i = r at e
  simp only [gS, List.getD_eq_getElem?_getD, List.getElem?_map, e]
  rfl
theorem goodR_len {s : List UInt8} {ls : List (List UInt8)} (h0 : s ≠ []) (hls : pieces 32 s = ls) (g : GoodR s) : ls.length ≤ 60 := by
  have h := goodR_words h0 g
  rw [hls] at h
  rw [h, List.length_map]
  exact g.1.2
theorem goodR_pW {s : List UInt8} {ls : List (List UInt8)} (h0 : s ≠ []) (hls : pieces 32 s = ls) (g : GoodR s) : toldT (ls.map pW) = s := by
  have h := goodR_words h0 g
  rw [hls] at h
  have e : ls.map pW = rdA s := by
    rw [h, List.map_map]
    exact map_id fun r hr => pW_oneT (g.1.1 r hr)
  rw [e]; exact g.2
end Go.DM

/- What the statements do with rows of cells and of numbers: they are compared, marked, and looked at again. -/
set_option maxHeartbeats 4000000
namespace Go.DM
variable [Tok]
open Go.IntWalk
def marks (k : Int) (n : Nat) : List Cel := (List.range n).map fun (i : Nat) => (IntKind.i8.wrap (k + 2 * (i : Nat)), IntKind.i8.wrap (k + 2 * (i : Nat) + 1))
end Go.DM

/- Rounds marked, the marks read again; the reference's numbers. -/
set_option maxHeartbeats 4000000
namespace Go.DM
variable [Tok]
open Go.IntWalk
def DigL (s : List UInt8) : Prop := ∀ i, i < s.length → 48 ≤ gB s i ∧ gB s i ≤ 57
instance (s : List UInt8) : Decidable (DigL s) := inferInstanceAs (Decidable (∀ i, i < s.length → _))
def NumOk (s : List UInt8) : Prop := (s ≠ [] ∧ s.length ≤ 10 ∧ ¬ (gB s 0 = 48 ∧ 1 < s.length)) ∧ DigL s
instance (s : List UInt8) : Decidable (NumOk s) := inferInstanceAs (Decidable ((_ ∧ _ ∧ ¬ _) ∧ _))
end Go.DM

/- strings.Split and number, as given; the pieces of a text are no longer than it. -/
namespace Go.DM
variable [Tok]
theorem piece_len {c : UInt8} : ∀ {s p : List UInt8}, p ∈ pieces c s → p.length ≤ s.length
  | [], p, h => by
    simp only [pieces, List.mem_singleton] at h
    rw [h]; exact Nat.le_refl _
  | b :: r, p, h => by
    by_cases e : b = c
    · subst e
      rw [pieces_hit, List.mem_cons] at h
      rcases h with rfl | h
      · simp
      · have := piece_len h; rw [List.length_cons]; omega
    · obtain ⟨q, qs, e1, e2⟩ := pieces_miss e r
      rw [e2, List.mem_cons] at h
      rcases h with rfl | h
      · have := piece_len (c := c) (s := r) (p := q) (by rw [e1]; simp)
        rw [List.length_cons, List.length_cons]; omega
      · have := piece_len (c := c) (s := r) (p := p) (by rw [e1]; exact List.mem_cons_of_mem _ h)
        rw [List.length_cons]; omega
theorem split_gives (s : List UInt8) (c : UInt8) (hs : s.length ≤ 2000000) : Gives G 238 [.d (.s (.str s)), .d (.s (.str [c]))] ⟨[.own (pieces c s).length 1 (encS (pieces c s))], []⟩ :=
  Gives.given rfl rfl (by
    simp only [splitO]
    rw [if_pos hs, encS_map])
theorem number_gives (s : List UInt8) (hs : s.length ≤ 2000000) : Gives G 314 [.d (.s (.str s))] (ri .i64 (numL s)) :=
  Gives.given rfl rfl (by
    simp only [numberO]
    rw [if_pos hs])
end Go.DM

/- NightOf: the program's side. -/
namespace Go.DM
variable [Tok]
open Go.IntWalk
variable {w h : Int} {g : Nat → Int} {cs : List S} {q : Nat → Int} {qs : List S}
section
variable {Γ : Nat → Option Fn} {dsts : Nat → Option Nat} {ops : List Oper} {Q : St → Prop} {σ : St} {d : Option Nat} {gd : Option (Nat × Bool)} {l1 l2 l3 l4 : List Nat}
theorem WH.s2 {es p off n l h : Nat} {a : Opd} {lo hi : Option Opd} (hw : wanted dsts (kill l1 (only l3 σ)).env gd = some true) (ha : ev (kill l1 (only l3 σ)).env a = .a (.sl p off n es)) (hl : bound (lo.map (ev (kill l1 (only l3 σ)).env)) 0 = some l) (hh : bound (hi.map (ev (kill l1 (only l3 σ)).env)) n = some h) (hb : l ≤ h ∧ h ≤ n)
    (hv : killV l1 (.a (.sl p (off + l * es) (h - l) es)) = .a (.sl p (off + l * es) (h - l) es)) (K : WH Γ dsts ops Q (set d (.a (.sl p (off + l * es) (h - l) es)) σ)) : WH Γ dsts (⟨d, .slc (.sl es) a lo hi, gd, l1, l2, l3, l4⟩ :: ops) Q σ :=
  WH.q hw (by simp only [veil, quiet, ha, slc, hl, hh, Option.bind_some]; rw [if_pos ⟨hb.1, hb.2, trivial⟩]) hv K
end
end Go.DM

/- The statements' own functions: copies of cells, lawns, levels. -/
namespace Go.DM
variable [Tok]
open Go.IntWalk
end Go.DM

/- Rounds are read from their text: the walks, the statement. -/
set_option maxHeartbeats 4000000
namespace Go.DM
variable [Tok]
open Go.IntWalk
open Classical in
noncomputable def readRR (bad : Ret) (s : List UInt8) : Res := if GoodR s then ⟨[.own (rdA s).length 2 (encO (rdA s)), .s (.int .i64 0)], []⟩ else ⟨[bad, .s (.int .i64 5)], []⟩
theorem goodR_nil : GoodR [] := ⟨⟨fun r hr => (by cases hr), Nat.zero_le _⟩, rfl⟩
end Go.DM

/- Rounds are read from their text: the program's walk. -/
set_option maxHeartbeats 4000000
namespace Go.DM
variable [Tok]
open Go.IntWalk
theorem progRR0_gives : Gives G 297 [.d (.s (.str []))] (readRR (.s .nils) []) := by
  have hr : readRR (.s .nils) [] = ⟨[.own 0 2 (encO []), .s (.int .i64 0)], []⟩ := if_pos goodR_nil
  rw [hr]
  refine Gives.by rfl rfl (W.seq ?_)
  repeat' first | ((with_reducible apply WR.mv); exact rfl; exact rfl) | ((with_reducible apply WR.seq_); exact rfl; exact rfl; exact rfl) | ((with_reducible apply WR.nil)) | (with_reducible refine andThen_n ?_) | (with_reducible refine andThen_r ?_) | (with_reducible refine W.seq ?_) | (with_reducible refine W.region ?_) | (with_reducible refine W.skip ?_) | (with_reducible refine W.ret ?_) | ((with_reducible apply W.condT); exact rfl) | ((with_reducible apply W.condF); exact rfl) | ((with_reducible apply Done.f); (intro hh hh2; exact (nomatch hh2)); (focus ((repeat' first | exact all_nil | apply all_cons | exact res_tmp rfl | exact rfl); done)); (focus ((repeat' first | exact all_nil | apply all_cons | exact retOf_s rfl | exact retOf_o rfl rfl (by first | exact encO_length _ | exact rfl) | exact rfl); done)); exact rfl; (focus ((repeat' first | exact outs_nil | apply outs_d | exact rfl); done))) | (intro hb; try (exfalso; omega)) | ((with_reducible apply WR.bsR0); exact rfl; (exact rfl))
  all_goals first | (exfalso; exact absurd rfl (by assumption)) | rfl
theorem progRR_gives (s : List UInt8) (hs : s.length ≤ 1048576) : Gives G 297 [.d (.s (.str s))] (readRR (.s .nils) s) := by
  by_cases h0 : s = []
  · subst h0
    exact progRR0_gives
  have hne := pieces_ne 32 s
  have hle := pieces_le 32 s
  have hmem : ∀ w ∈ pieces 32 s, w.length ≤ 1048576 := fun w hw => Nat.le_trans (piece_len hw) hs
  generalize hls : pieces 32 s = ls at hne hle hmem
  have hsp : Gives G 238 [.d (.s (.str s)), .d (.s (.str [32]))] ⟨[.own ls.length 1 (encS ls)], []⟩ := by
    rw [← hls]; exact split_gives s 32 (by omega)
  have bad : ¬ GoodR s → (⟨[.s .nils, .s (S.int IntKind.i64 5)], []⟩ : Res) = readRR (.s .nils) s := fun h => by rw [readRR, if_neg h]
  have gw := fun i => goodR_word (i := i) h0 hls
  have gl := goodR_len h0 hls
  refine Gives.by rfl rfl (W.seq ?_)
  repeat' first | ((with_reducible apply WR.c_o (f := 238) (fn := Code.f238)); exact rfl; exact rfl; exact rfl; (exact rfl); (focus ((repeat' first | exact args_nil | apply args_d | exact toD_d rfl | exact all_nil | apply all_cons | exact rfl); done)); exact hsp; (exact rfl)) | ((with_reducible apply WR.mv); exact rfl; exact rfl) | ((with_reducible apply WR.seq_); exact rfl; exact rfl; exact rfl) | ((with_reducible apply WR.nil)) | (with_reducible refine andThen_n ?_) | (with_reducible refine andThen_r ?_) | (with_reducible refine W.seq ?_) | (with_reducible refine W.region ?_) | (with_reducible refine W.skip ?_) | (with_reducible refine W.ret ?_) | (with_reducible refine W.block ?_) | ((with_reducible apply W.condT); exact rfl) | ((with_reducible apply W.condF); exact rfl) | ((with_reducible apply Done.f); (intro hh hh2; exact (nomatch hh2)); (focus ((repeat' first | exact all_nil | apply all_cons | exact res_tmp rfl | exact rfl); done)); (focus ((repeat' first | exact all_nil | apply all_cons | exact retOf_s rfl | exact retOf_o rfl rfl (by first | exact encO_length _ | exact rfl) | exact rfl); done)); exact rfl; (focus ((repeat' first | exact outs_nil | apply outs_d | exact rfl); done))) | (intro hb; try (exfalso; omega)) | ((with_reducible apply WR.bsR0); exact rfl; (exact rfl)) | ((with_reducible apply WR.le); exact rfl; exact rfl)
  all_goals try (exfalso; exact h0 (by assumption))
  (refine (?_ : W _ (Code.loop _) _ _))
  (refine W.loopM [0, 13, 14] [13] [39, 40] (fun zz : (List Rnd) × (Nat) => match zz with | (out, i) => (ls.length - i : Nat)) (fun zz : (List Rnd) × (Nat) => match zz with | (out, i) => (i ≤ ls.length ∧ out = (ls.take i).map pW ∧ out.length = i ∧ i ≤ 60 ∧ ∀ r ∈ out, 0 ≤ r.1 ∧ r.1 ≤ 9 : Prop)) (fun zz : (List Rnd) × (Nat) => match zz with | (out, i) => [(4, .a (.sl 8 0 out.length 2)), (15, .a (.d (.s (.int .i64 (i : Nat)))))]) (fun zz : (List Rnd) × (Nat) => match zz with | (out, i) => [(8, .flat false (encO out))]) ([], 0) (⟨by omega, rfl, rfl, by omega, fun w hw => by simp at hw⟩) ⟨rfl, rfl, trivial⟩ ⟨rfl, trivial⟩ ⟨np, np, trivial⟩ ?_)
  rintro ⟨out, i⟩ σ hP hN; dsimp only [setL, putL] at hP ⊢; obtain ⟨n39, hN⟩ := hN; obtain ⟨n40, hN⟩ := hN
  obtain ⟨hi, ho, hol, h60, hr⟩ := hP
  by_cases hil : i < ls.length
  · have hm := hmem _ (gS_mem hil)
    have gp : GoodR s → 0 < (gS ls i).length ∧ 0 ≤ numL ((gS ls i).drop 1) ∧ numL ((gS ls i).drop 1) ≤ 9 := fun g => by
      obtain ⟨r, h9, hr⟩ := gw i g hil
      have := congrArg Prod.fst (pW_oneT h9)
      rw [← hr] at this
      have e : numL ((gS ls i).drop 1) = r.1 := this
      rw [e, hr, oneT_len]
      omega
    by_cases h1 : gS ls i = []
    · have h1l : (gS ls i).length = 0 := by rw [h1]; rfl
      repeat' first | ((with_reducible apply WR.mv); exact rfl; exact rfl) | ((with_reducible apply WR.seq_); exact rfl; exact rfl; exact rfl) | ((with_reducible apply WR.eql); exact rfl; exact rfl; exact rfl) | ((with_reducible apply WR.nil)) | (with_reducible refine andThen_n ?_) | (with_reducible refine andThen_r ?_) | (with_reducible refine inB_r ?_) | (with_reducible refine W.seq ?_) | (with_reducible refine W.region ?_) | (with_reducible refine W.skip ?_) | (with_reducible refine W.ret ?_) | (with_reducible refine W.block ?_) | ((with_reducible apply W.condT); exact rfl) | ((with_reducible apply W.condF); exact rfl) | ((with_reducible apply Done.f); (intro hh hh2; exact (nomatch hh2)); (focus ((repeat' first | exact all_nil | apply all_cons | exact res_tmp rfl | exact rfl); done)); (focus ((repeat' first | exact all_nil | apply all_cons | exact retOf_s rfl | exact rfl); done)); exact rfl; (focus ((repeat' first | exact outs_nil | apply outs_d | exact rfl); done))) | (intro hb; try (exfalso; omega)) | ((with_reducible apply WR.le); exact rfl; exact rfl) | ((with_reducible apply WR.off); exact rfl) | ((with_reducible apply WR.lss); exact rfl; exact rfl; exact rfl) | ((with_reducible apply WR.isn); exact rfl; exact rfl; exact rfl; omega) | ((with_reducible apply WR.ld); exact rfl; exact rfl; exact rfl; (first | exact ldS (by first | omega))) | ((with_reducible apply WR.pk); exact rfl; exact rfl)
      all_goals first
        | (exfalso; exact absurd h1 (by assumption))
        | (exact bad fun g => by have := (gp g).1; omega)
    · have hp := List.length_pos_iff.2 h1
      have e2 : ((gS ls i).drop 1).take ((gS ls i).length - 1) = (gS ls i).drop 1 := List.take_of_length_le (by simp)
      have hN : Gives G 314 [.d (.s (.str (((gS ls i).drop 1).take ((gS ls i).length - 1))))] (ri .i64 (numL ((gS ls i).drop 1))) := by
        rw [e2]; exact number_gives _ (by rw [List.length_drop]; omega)
      clear e2
      have hst : ls.take (i + 1) = ls.take i ++ [gS ls i] := by rw [List.take_add_one, gS_get hil]; rfl
      by_cases hd : 0 ≤ numL ((gS ls i).drop 1) ∧ numL ((gS ls i).drop 1) ≤ 9
      · have nr : ∀ b : Bool, ∀ r ∈ out ++ [(numL ((gS ls i).drop 1), b)], 0 ≤ r.1 ∧ r.1 ≤ 9 := fun b r hr' => by
          rw [List.mem_append] at hr'
          rcases hr' with hr' | hr'
          · exact hr r hr'
          · rw [List.mem_singleton] at hr'; subst hr'; exact hd
        repeat' first | ((with_reducible apply WR.c_s (f := 314) (fn := Code.f314)); exact rfl; exact rfl; exact rfl; (exact rfl); (focus ((repeat' first | exact args_nil | apply args_d | exact toD_d rfl | exact all_nil | apply all_cons | exact rfl); done)); exact hN) | ((with_reducible apply WR.c_p (f := 56) (fn := Code.f56)); exact rfl; exact rfl; exact rfl; (exact rfl); (focus ((repeat' first | exact args_nil | apply args_d | exact toD_d rfl | exact all_nil | apply all_cons | exact rfl); done)); exact within_gives _ _ _) | ((with_reducible apply WR.mv); exact rfl; exact rfl) | ((with_reducible apply WR.seq_); exact rfl; exact rfl; exact rfl) | ((with_reducible apply WR.eql); exact rfl; exact rfl; exact rfl) | ((with_reducible apply WR.nil)) | (with_reducible refine andThen_n ?_) | (with_reducible refine andThen_r ?_) | (with_reducible refine inB_n ?_) | (with_reducible refine inB_r ?_) | (with_reducible refine W.seq ?_) | (with_reducible refine W.region ?_) | (with_reducible refine W.skip ?_) | (with_reducible refine W.ret ?_) | (with_reducible refine W.block ?_) | ((with_reducible apply W.condT); exact rfl) | ((with_reducible apply W.condF); exact rfl) | ((with_reducible apply Done.f); (intro hh hh2; exact (nomatch hh2)); (focus ((repeat' first | exact all_nil | apply all_cons | exact res_tmp rfl | exact rfl); done)); (focus ((repeat' first | exact all_nil | apply all_cons | exact retOf_s rfl | exact rfl); done)); exact rfl; (focus ((repeat' first | exact outs_nil | apply outs_d | exact rfl); done))) | (intro hb; try (exfalso; omega)) | ((with_reducible apply WR.bsR1); exact rfl; exact rfl; (first | exact rfl | assumption)) | ((with_reducible apply WR.le); exact rfl; exact rfl) | ((with_reducible apply WR.off); exact rfl) | ((with_reducible apply WR.ist); exact rfl; exact rfl; exact rfl; (first | omega)) | ((with_reducible apply WR.sst); exact rfl; exact rfl; exact rfl; exact rfl; exact ⟨by omega, by omega⟩) | ((with_reducible apply WR.apR); exact rfl; exact rfl; exact rfl; exact rfl; omega) | ((with_reducible apply WR.bRn); exact rfl; exact rfl; exact rfl) | ((with_reducible apply WR.lss); exact rfl; exact rfl; exact rfl) | ((with_reducible apply WR.cv); exact rfl; exact rfl; (first | exact i64_in _ (by omega) | assumption | exact i8_in _ (by omega))) | ((with_reducible apply WR.ad); exact rfl; exact rfl; exact rfl; (first | exact i64_in _ (by omega) | assumption | exact i8_in _ (by omega))) | ((with_reducible apply WR.isn); exact rfl; exact rfl; exact rfl; omega) | ((with_reducible apply WR.ld); exact rfl; exact rfl; exact rfl; (first | exact ldS (by first | omega))) | ((with_reducible apply WR.un); exact rfl; exact rfl) | ((with_reducible apply WR.pk); exact rfl; exact rfl)
        all_goals try (exfalso; first | omega | exact absurd (by assumption) h1)
        all_goals try (exact bad fun g => by have := gl g; omega)
        · (refine W.nxt ((out ++ [(numL ((gS ls i).drop 1), true)], i + 1)) (by first | omega | (dsimp only; omega)) ?_ ⟨rfl, rfl, trivial⟩ ⟨rfl, trivial⟩ ⟨rfl, rfl, rfl, trivial⟩ ⟨rfl, trivial⟩ ⟨np, np, trivial⟩); (try dsimp only)
          have h104 : gB (gS ls i) 0 = 104 := by assumption
          refine ⟨by omega, ?_, by simp [hol], by omega, nr true⟩
          rw [hst, List.map_append, ho]
          simp only [List.map_cons, List.map_nil, pW, h104, decide_true]
        · (refine W.nxt ((out ++ [(numL ((gS ls i).drop 1), false)], i + 1)) (by first | omega | (dsimp only; omega)) ?_ ⟨rfl, rfl, trivial⟩ ⟨rfl, trivial⟩ ⟨rfl, rfl, rfl, trivial⟩ ⟨rfl, trivial⟩ ⟨np, np, trivial⟩); (try dsimp only)
          have h104 : ¬ gB (gS ls i) 0 = 104 := by assumption
          refine ⟨by omega, ?_, by simp [hol], by omega, nr false⟩
          rw [hst, List.map_append, ho]
          simp only [List.map_cons, List.map_nil, pW, h104, decide_false]
      · repeat' first | ((with_reducible apply WR.c_s (f := 314) (fn := Code.f314)); exact rfl; exact rfl; exact rfl; (exact rfl); (focus ((repeat' first | exact args_nil | apply args_d | exact toD_d rfl | exact all_nil | apply all_cons | exact rfl); done)); exact hN) | ((with_reducible apply WR.c_p (f := 56) (fn := Code.f56)); exact rfl; exact rfl; exact rfl; (exact rfl); (focus ((repeat' first | exact args_nil | apply args_d | exact toD_d rfl | exact all_nil | apply all_cons | exact rfl); done)); exact within_gives _ _ _) | ((with_reducible apply WR.mv); exact rfl; exact rfl) | ((with_reducible apply WR.seq_); exact rfl; exact rfl; exact rfl) | ((with_reducible apply WR.eql); exact rfl; exact rfl; exact rfl) | ((with_reducible apply WR.nil)) | (with_reducible refine andThen_n ?_) | (with_reducible refine andThen_r ?_) | (with_reducible refine inB_r ?_) | (with_reducible refine W.seq ?_) | (with_reducible refine W.region ?_) | (with_reducible refine W.skip ?_) | (with_reducible refine W.ret ?_) | (with_reducible refine W.block ?_) | ((with_reducible apply W.condT); exact rfl) | ((with_reducible apply W.condF); exact rfl) | ((with_reducible apply Done.f); (intro hh hh2; exact (nomatch hh2)); (focus ((repeat' first | exact all_nil | apply all_cons | exact res_tmp rfl | exact rfl); done)); (focus ((repeat' first | exact all_nil | apply all_cons | exact retOf_s rfl | exact rfl); done)); exact rfl; (focus ((repeat' first | exact outs_nil | apply outs_d | exact rfl); done))) | (intro hb; try (exfalso; omega)) | ((with_reducible apply WR.le); exact rfl; exact rfl) | ((with_reducible apply WR.off); exact rfl) | ((with_reducible apply WR.sst); exact rfl; exact rfl; exact rfl; exact rfl; exact ⟨by omega, by omega⟩) | ((with_reducible apply WR.lss); exact rfl; exact rfl; exact rfl) | ((with_reducible apply WR.isn); exact rfl; exact rfl; exact rfl; omega) | ((with_reducible apply WR.ld); exact rfl; exact rfl; exact rfl; (first | exact ldS (by first | omega))) | ((with_reducible apply WR.un); exact rfl; exact rfl) | ((with_reducible apply WR.pk); exact rfl; exact rfl)
        all_goals try (exfalso; first | exact hd (by assumption) | omega | exact absurd (by assumption) h1)
        all_goals first
          | (exact bad fun g => by have := gl g; omega)
          | (exact bad fun g => hd (gp g).2)
  · obtain rfl : i = ls.length := by omega
    rw [List.take_of_length_le (by omega)] at ho
    have hT := roundsText_gives out (by omega) (fun r h => by have := hr r h; omega)
    have hok : RndOk out := ⟨hr, by omega⟩
    rw [textT, if_pos hok] at hT
    have hg : GoodR s → toldT out = s := fun g => by rw [ho]; exact goodR_pW h0 hls g
    by_cases ht : toldT out = s
    · obtain ⟨g, he⟩ := goodR_told hok ht
      rw [readRR, if_pos g, he]
      repeat' first | ((with_reducible apply WR.c_s (f := 224) (fn := Code.f224)); exact rfl; exact rfl; exact rfl; (exact rfl); (focus ((repeat' first | exact args_nil | apply args_d | exact toD_slX rfl rfl (by first | exact encO_length _ | exact rfl) | exact all_nil | apply all_cons | exact rfl); done)); exact hT) | ((with_reducible apply WR.mv); exact rfl; exact rfl) | ((with_reducible apply WR.nil)) | (with_reducible refine andThen_n ?_) | (with_reducible refine andThen_x ?_) | (with_reducible refine andThen_r ?_) | (with_reducible refine inB_x ?_) | (with_reducible refine W.seq ?_) | (with_reducible refine W.region ?_) | (with_reducible refine W.skip ?_) | (with_reducible refine W.ret ?_) | (with_reducible refine W.exit ?_) | ((with_reducible apply W.condT); exact rfl) | ((with_reducible apply W.condF); exact rfl) | ((with_reducible apply Done.f); (intro hh hh2; exact (nomatch hh2)); (focus ((repeat' first | exact all_nil | apply all_cons | exact res_tmp rfl | exact rfl); done)); (focus ((repeat' first | exact all_nil | apply all_cons | exact retOf_s rfl | exact retOf_o rfl rfl (by first | exact encO_length _ | exact rfl) | exact rfl); done)); exact rfl; (focus ((repeat' first | exact outs_nil | apply outs_d | exact rfl); done))) | (intro hb; try (exfalso; omega)) | ((with_reducible apply WR.snq); exact rfl; exact rfl; exact rfl) | ((with_reducible apply WR.lss); exact rfl; exact rfl; exact rfl)
      all_goals first
        | (exfalso; exact absurd ht (by assumption))
        | rfl
    · repeat' first | ((with_reducible apply WR.c_s (f := 224) (fn := Code.f224)); exact rfl; exact rfl; exact rfl; (exact rfl); (focus ((repeat' first | exact args_nil | apply args_d | exact toD_slX rfl rfl (by first | exact encO_length _ | exact rfl) | exact all_nil | apply all_cons | exact rfl); done)); exact hT) | ((with_reducible apply WR.mv); exact rfl; exact rfl) | ((with_reducible apply WR.nil)) | (with_reducible refine andThen_n ?_) | (with_reducible refine andThen_x ?_) | (with_reducible refine andThen_r ?_) | (with_reducible refine inB_x ?_) | (with_reducible refine W.seq ?_) | (with_reducible refine W.region ?_) | (with_reducible refine W.skip ?_) | (with_reducible refine W.ret ?_) | (with_reducible refine W.exit ?_) | ((with_reducible apply W.condT); exact rfl) | ((with_reducible apply W.condF); exact rfl) | ((with_reducible apply Done.f); (intro hh hh2; exact (nomatch hh2)); (focus ((repeat' first | exact all_nil | apply all_cons | exact res_tmp rfl | exact rfl); done)); (focus ((repeat' first | exact all_nil | apply all_cons | exact retOf_s rfl | exact retOf_o rfl rfl (by first | exact encO_length _ | exact rfl) | exact rfl); done)); exact rfl; (focus ((repeat' first | exact outs_nil | apply outs_d | exact rfl); done))) | (intro hb; try (exfalso; omega)) | ((with_reducible apply WR.snq); exact rfl; exact rfl; exact rfl) | ((with_reducible apply WR.lss); exact rfl; exact rfl; exact rfl)
      all_goals first
        | (exfalso; exact ht (by assumption))
        | exact bad fun g => ht (hg g)
end Go.DM
