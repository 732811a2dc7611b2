/- Ways: loosened ways, ways home, steps: both sides. -/
import Derived.Test.YtadlffkjghjciaaGreatDoorK380Ways2
set_option linter.unusedSectionVars false
set_option linter.unusedSimpArgs false
set_option linter.unusedVariables false
set_option maxHeartbeats 4000000
namespace Go.DM
variable [Tok]
open Go.IntWalk
variable {w h : Int} {g : Nat → Int} {cs : List S}
section
variable {Γ : Nat → Option Fn} {dsts : Nat → Option Nat} {ops : List Oper} {Q : St → Prop} {σ : St} {d : Option Nat} {gd : Option (Nat × Bool)} {l1 l2 l3 l4 : List Nat}
theorem encI_take (ik : IntKind) : ∀ (n : Nat) (l : List Int), (encI ik l).take n = encI ik (l.take n)
  | 0, l => by simp [encI]
  | n + 1, [] => by simp [encI]
  | n + 1, a :: l => by simp [encI, encI_take ik n l]
theorem WR.apT {p n : Nat} {a b : Opd} {ik : IntKind} {l : List Int} {x : Int} (hw : wanted dsts σ.env gd = some true) (ha : ev σ.env a = .a (.sl p 0 n 1)) (ho : σ.objs p = some (.flat false (encI ik l))) (hb : elems σ.objs 1 (ev σ.env b) = some (1, [.int ik x])) (hn : n ≤ l.length) (h2 : l.length ≤ 100000)
    (k : WR Γ dsts ops Q (set d (.a (.sl p 0 (n + 1) 1)) (put p (.flat false (encI ik (l.take n ++ [x]))) (kill [p] σ)))) : WR Γ dsts (⟨d, .app 1 a b, gd, l1, l2, l3, l4⟩ :: ops) Q σ := by
  refine WR.cons ⟨0, step_dl (r := ⟨.a (.sl p 0 (n + 1) 1), [p], [(p, .flat false (encI ik (l.take n ++ [x])))]⟩) hw ?_ (by rw [noPar_one]; intro cs e; rw [ho] at e; cases e)⟩ k
  have hl := encI_length ik l
  simp only [delta, append, ha, hb, ho]
  rw [if_pos ⟨trivial, by omega, by simp only [big]; omega⟩, encI_append, List.drop_zero, Nat.mul_one, encI_take]
  rfl
theorem quiet_obT {a : Opd} {p n : Nat} {b : Bool} {l : List Int} (ha : ev σ.env a = .a (.sl p 0 n 1)) (ho : σ.objs p = some (.flat b (encI .u8 l))) (hn : n ≤ l.length) : quiet σ (.conv .ofBytes a) = some (.a (.d (.s (.str ((l.take n).map fun n => UInt8.ofNat n.toNat))))) := by
  have hl := encI_length .u8 l
  simp only [quiet, ha, elems, ho]
  rw [if_pos ⟨trivial, by omega⟩, Option.bind_some]
  simp only [List.drop_zero, Nat.mul_one]
  rw [encI_take, bytesOf_encI]; rfl
theorem WR.obT {a : Opd} {p n : Nat} {b : Bool} {l : List Int} (hw : wanted dsts σ.env gd = some true) (ha : ev σ.env a = .a (.sl p 0 n 1)) (ho : σ.objs p = some (.flat b (encI .u8 l))) (hn : n ≤ l.length)
    (K : WR Γ dsts ops Q (set d (.a (.d (.s (.str ((l.take n).map fun n => UInt8.ofNat n.toNat))))) σ)) : WR Γ dsts (⟨d, .conv .ofBytes a, gd, l1, l2, l3, l4⟩ :: ops) Q σ := WR.q hw (quiet_obT ha ho hn) K
end
theorem stk_cons (y : UInt8) (r : List UInt8) (x : UInt8) : stk (y :: r) x = if y = opp x then r else x :: y :: r := rfl
theorem loose_snoc (s : List UInt8) {i : Nat} (hi : i < s.length) : looseS (s.take (i + 1)) = stk (looseS (s.take i)) (s.getD i 0) := by
  unfold looseS
  rw [List.take_add_one, List.foldl_append, List.getD_eq_getElem?_getD, List.getElem?_eq_getElem hi]; rfl
theorem byte_eq {a b : UInt8} : ((a.toNat : Nat) : Int) = ((b.toNat : Nat) : Int) ↔ a = b := by
  rw [Int.natCast_inj, UInt8.toNat_inj]
theorem looseWay_gives (s : List UInt8) (hl : Lets s) (hn : s.length ≤ 200) : Gives G 394 [.d (.s (.str s))] ⟨[.s (.str (looseW s)), .s (.int .i64 0)], []⟩ := by
  have hw := wayCode_gives s
  rw [wayC_zero hl hn] at hw
  refine Gives.by rfl rfl (W.seq ?_)
  repeat' first | ((with_reducible apply WR.c_s (f := 111) (fn := Code.f111)); exact rfl; exact rfl; exact rfl; (exact rfl); (focus ((repeat' first | exact args_nil | apply args_d | exact toD_d rfl | exact rfl); done)); exact hw) | ((with_reducible apply WR.mv); exact rfl; exact rfl) | ((with_reducible apply WR.nil)) | (with_reducible refine andThen_n ?_) | (with_reducible refine W.seq ?_) | (with_reducible refine W.region ?_) | (with_reducible refine W.skip ?_) | (with_reducible refine W.block ?_) | ((with_reducible apply W.condF); exact rfl) | (intro hb; try (exfalso; omega)) | ((with_reducible apply WR.bs); exact rfl; exact rfl; (exact rfl)) | ((with_reducible apply WR.le); exact rfl; exact rfl) | ((with_reducible apply WR.neq); exact rfl; exact rfl; exact rfl)
  (refine (?_ : W _ (Code.loop _) _ _))
  (refine W.loopM [0, 15] [] [43, 44] (fun zz : (Nat) × (Nat) × (List Int) => match zz with | (i, n, L) => (s.length - i : Nat)) (fun zz : (Nat) × (Nat) × (List Int) => match zz with | (i, n, L) => (i ≤ s.length ∧ n ≤ L.length ∧ n ≤ i ∧ L.length ≤ 200 ∧ L.take n = bI (looseS (s.take i)).reverse : Prop)) (fun zz : (Nat) × (Nat) × (List Int) => match zz with | (i, n, L) => [(5, .a (.sl 13 0 n 1)), (16, .a (.d (.s (.int .i64 (i : Nat)))))]) (fun zz : (Nat) × (Nat) × (List Int) => match zz with | (i, n, L) => [(13, .flat false (encI .u8 L))]) (0, 0, []) (⟨by omega, by simp, by simp, by simp, by simp [bI, looseS]⟩) ⟨rfl, rfl, trivial⟩ ⟨rfl, trivial⟩ ⟨np, np, trivial⟩ ?_)
  rintro ⟨i, n, L⟩ σ hP hN; dsimp only [setL, putL] at hP ⊢; obtain ⟨n43, hN⟩ := hN; obtain ⟨n44, hN⟩ := hN
  obtain ⟨hi, hnL, hni, hL2, hT⟩ := hP
  have hlen : n = (looseS (s.take i)).length := by
    have := congrArg List.length hT
    rw [List.length_take, bI, List.length_map, List.length_reverse] at this
    omega
  by_cases hil : i < s.length
  · have hlt := lets_gB hl i hil
    have hop := opposite_gives s i hlt
    have hsn := loose_snoc s hil
    by_cases hn0 : n = 0
    · subst hn0
      have hst : looseS (s.take i) = [] := List.length_eq_zero_iff.1 hlen.symm
      repeat' first | ((with_reducible apply WR.apT); exact rfl; exact rfl; exact rfl; exact rfl; omega; omega) | ((with_reducible apply WR.mv); exact rfl; exact rfl) | ((with_reducible apply WH.mv); exact rfl; exact rfl; exact rfl) | ((with_reducible apply WH.off); exact rfl) | ((with_reducible apply WR.nil)) | (with_reducible refine andThen_n ?_) | (with_reducible refine inB_n ?_) | (with_reducible refine W.seq ?_) | (with_reducible refine W.region ?_) | (with_reducible refine W.skip ?_) | (with_reducible refine W.block ?_) | ((with_reducible apply W.condT); exact rfl) | ((with_reducible apply W.condF); exact rfl) | ((with_reducible apply WH.nil)) | (with_reducible refine W.draw ?_) | (intro hb; try (exfalso; omega)) | ((with_reducible apply WR.bsI1); exact rfl; exact rfl; (first | assumption)) | ((with_reducible apply WR.le); exact rfl; exact rfl) | ((with_reducible apply WR.ist); exact rfl; exact rfl; exact rfl; (first | omega)) | ((with_reducible apply WR.lss); exact rfl; exact rfl; exact rfl) | ((with_reducible apply WR.ad); exact rfl; exact rfl; exact rfl; (first | exact i64_in _ (by omega) | assumption)) | ((with_reducible apply WH.gtr); exact rfl; exact rfl; exact rfl) | ((with_reducible apply WH.pk); exact rfl; exact rfl; exact rfl)
      (refine W.nxt (i + 1, 0 + 1, L.take 0 ++ [gB s i]) (by first | omega | (dsimp only; omega)) ?_ ⟨rfl, rfl, trivial⟩ ⟨rfl, trivial⟩ ⟨rfl, rfl, trivial⟩ trivial ⟨np, np, trivial⟩); (try dsimp only)
      refine ⟨by omega, by simp, by omega, by simp, ?_⟩
      rw [hsn, hst]
      simp [stk, bI, gB]
    · obtain ⟨y, r, hyr⟩ : ∃ y r, looseS (s.take i) = y :: r := by
        cases he : looseS (s.take i) with
        | nil => rw [he] at hlen; simp at hlen; omega
        | cons y r => exact ⟨y, r, rfl⟩
      rw [hyr] at hT hsn hlen
      rw [List.length_cons] at hlen
      have hgt : gI L (n - 1) = ((y.toNat : Nat) : Int) := by
        have e1 : gI L (n - 1) = gI (L.take n) (n - 1) := by
          simp only [gI, List.getD_eq_getElem?_getD]
          rw [List.getElem?_take_of_lt (by omega)]
        rw [e1, hT]
        have e2 : n - 1 = r.reverse.length := by rw [List.length_reverse]; omega
        simp only [gI, bI, List.reverse_cons, List.map_append, List.getD_eq_getElem?_getD]
        rw [e2, List.getElem?_append_right (by simp)]
        simp
      have en : ((n : Int) - 1).toNat = n - 1 := by omega
      have hg2 : gI L ((n : Int) - 1).toNat = ((y.toNat : Nat) : Int) := by rw [en]; exact hgt
      have hbd : ∀ m, bound (some (.a (.d (.s (.int .i64 ((n : Int) - 1)))))) m = some (n - 1) := fun m => by
        show (if 0 ≤ ((n : Int) - 1) then some ((n : Int) - 1).toNat else none) = _
        rw [if_pos (by omega), en]
      have hld : loadC 1 false (encI .u8 L) (0 + ((n : Int) - 1).toNat * 1) = some (.a (.d (.s (.int .u8 ((y.toNat : Nat) : Int))))) := by rw [ldI (by omega), hg2]
      by_cases hyo : y = opp (s.getD i 0)
      · have hcmp : ((y.toNat : Nat) : Int) = ((opp (s.getD i 0)).toNat : Nat) := byte_eq.2 hyo
        repeat' first | ((with_reducible apply WH.c_s (f := 401) (fn := Code.f401)); exact rfl; exact rfl; exact rfl; (exact rfl); (focus ((repeat' first | exact args_nil | apply args_d | exact toD_d rfl | exact rfl); done)); exact hop; exact rfl) | ((with_reducible apply WH.ld); exact rfl; exact rfl; exact rfl; exact hld; exact rfl) | ((with_reducible apply WR.s2 (l := 0) (h := n - 1)); exact rfl; exact rfl; exact rfl; exact hbd _; exact ⟨by omega, by omega⟩) | ((with_reducible apply WR.mv); exact rfl; exact rfl) | ((with_reducible apply WH.mv); exact rfl; exact rfl; exact rfl) | ((with_reducible apply WR.nil)) | (with_reducible refine andThen_n ?_) | (with_reducible refine inB_n ?_) | (with_reducible refine W.seq ?_) | (with_reducible refine W.region ?_) | (with_reducible refine W.skip ?_) | (with_reducible refine W.block ?_) | ((with_reducible apply W.condT); exact rfl) | ((with_reducible apply WH.nil)) | (with_reducible refine W.draw ?_) | (intro hb; try (exfalso; omega)) | ((with_reducible apply WR.le); exact rfl; exact rfl) | ((with_reducible apply WR.lss); exact rfl; exact rfl; exact rfl) | ((with_reducible apply WR.ad); exact rfl; exact rfl; exact rfl; (first | exact i64_in _ (by omega))) | ((with_reducible apply WR.sb); exact rfl; exact rfl; exact rfl; (first | exact i64_in _ (by omega))) | ((with_reducible apply WH.ist); exact rfl; exact rfl; exact rfl; (first | omega)) | ((with_reducible apply WH.gtr); exact rfl; exact rfl; exact rfl) | ((with_reducible apply WH.eql); exact rfl; exact rfl; exact rfl) | ((with_reducible apply WH.sb); exact rfl; exact rfl; exact rfl; (first | exact i64_in _ (by omega))) | ((with_reducible apply WH.is); exact rfl; exact rfl; exact rfl; omega; exact rfl) | ((with_reducible apply WH.pk); exact rfl; exact rfl; exact rfl)
        all_goals first
          | exact absurd hcmp (by assumption)
          | ((refine W.nxt (i + 1, n - 1, L) (by first | omega | (dsimp only; omega)) ?_ ⟨rfl, rfl, trivial⟩ ⟨rfl, trivial⟩ ⟨rfl, rfl, trivial⟩ trivial ⟨np, np, trivial⟩); (try dsimp only)
             refine ⟨by omega, by omega, by omega, by omega, ?_⟩
             rw [hsn, stk_cons, if_pos hyo]
             have e : L.take (n - 1) = (L.take n).take (n - 1) := by rw [List.take_take]; congr 1; omega
             rw [e, hT]
             simp only [bI, List.reverse_cons, List.map_append]
             rw [List.take_append_of_le_length (by simp; omega), List.take_of_length_le (by simp; omega)])
      · have hcmp : ¬ ((y.toNat : Nat) : Int) = ((opp (s.getD i 0)).toNat : Nat) := fun k => hyo (byte_eq.1 k)
        repeat' first | ((with_reducible apply WH.c_s (f := 401) (fn := Code.f401)); exact rfl; exact rfl; exact rfl; (exact rfl); (focus ((repeat' first | exact args_nil | apply args_d | exact toD_d rfl | exact rfl); done)); exact hop; exact rfl) | ((with_reducible apply WH.ld); exact rfl; exact rfl; exact rfl; exact hld; exact rfl) | ((with_reducible apply WR.apT); exact rfl; exact rfl; exact rfl; exact rfl; omega; omega) | ((with_reducible apply WR.mv); exact rfl; exact rfl) | ((with_reducible apply WH.mv); exact rfl; exact rfl; exact rfl) | ((with_reducible apply WR.nil)) | (with_reducible refine andThen_n ?_) | (with_reducible refine inB_n ?_) | (with_reducible refine W.seq ?_) | (with_reducible refine W.region ?_) | (with_reducible refine W.skip ?_) | (with_reducible refine W.block ?_) | ((with_reducible apply W.condT); exact rfl) | ((with_reducible apply W.condF); exact rfl) | ((with_reducible apply WH.nil)) | (with_reducible refine W.draw ?_) | (intro hb; try (exfalso; omega)) | ((with_reducible apply WR.bsI1); exact rfl; exact rfl; (first | exact rfl | assumption)) | ((with_reducible apply WR.le); exact rfl; exact rfl) | ((with_reducible apply WR.ist); exact rfl; exact rfl; exact rfl; (first | omega)) | ((with_reducible apply WR.lss); exact rfl; exact rfl; exact rfl) | ((with_reducible apply WR.ad); exact rfl; exact rfl; exact rfl; (first | exact i64_in _ (by omega) | assumption)) | ((with_reducible apply WH.ist); exact rfl; exact rfl; exact rfl; (first | omega)) | ((with_reducible apply WH.gtr); exact rfl; exact rfl; exact rfl) | ((with_reducible apply WH.eql); exact rfl; exact rfl; exact rfl) | ((with_reducible apply WH.sb); exact rfl; exact rfl; exact rfl; (first | exact i64_in _ (by omega) | assumption)) | ((with_reducible apply WH.is); exact rfl; exact rfl; exact rfl; omega; exact rfl) | ((with_reducible apply WH.pk); exact rfl; exact rfl; exact rfl)
        all_goals first
          | exact absurd (by assumption) hcmp
          | ((refine W.nxt (i + 1, n + 1, L.take n ++ [gB s i]) (by first | omega | (dsimp only; omega)) ?_ ⟨rfl, rfl, trivial⟩ ⟨rfl, trivial⟩ ⟨rfl, rfl, trivial⟩ trivial ⟨np, np, trivial⟩); (try dsimp only)
             refine ⟨by omega, by rw [List.length_append, List.length_take, List.length_singleton]; omega, by omega, by rw [List.length_append, List.length_take, List.length_singleton]; omega, ?_⟩
             rw [hsn, stk_cons, if_neg hyo, List.take_of_length_le (by rw [List.length_append, List.length_take, List.length_singleton]; omega), hT]
             simp [bI, gB])
  · obtain rfl : i = s.length := by omega
    rw [List.take_length] at hT
    repeat' first | ((with_reducible apply WR.obT); exact rfl; exact rfl; exact rfl; omega) | ((with_reducible apply WR.mv); exact rfl; exact rfl) | ((with_reducible apply WR.nil)) | (with_reducible refine andThen_n ?_) | (with_reducible refine andThen_x ?_) | (with_reducible refine inB_x ?_) | (with_reducible refine W.seq ?_) | (with_reducible refine W.region ?_) | (with_reducible refine W.ret ?_) | (with_reducible refine W.exit ?_) | ((with_reducible apply W.condF); exact rfl) | ((with_reducible apply Done.f); (intro hh hh2; exact (nomatch hh2)); (focus ((repeat' first | exact all_nil | apply all_cons | exact res_tmp rfl); done)); (focus ((repeat' first | exact all_nil | apply all_cons | exact retOf_s rfl); done)); exact rfl; (focus ((repeat' first | exact outs_nil | apply outs_d); done))) | (intro hb; try (exfalso; omega)) | ((with_reducible apply WR.lss); exact rfl; exact rfl; exact rfl)
    rw [hT, bI_back]
    rfl
theorem loose_cut (s : List UInt8) {i : Nat} (hi : i + 1 < s.length) : s = s.take i ++ s.getD i 0 :: s.getD (i + 1) 0 :: s.drop (i + 2) := by
  conv => lhs; rw [← List.take_append_drop i s]
  congr 1
  rw [List.drop_eq_getElem_cons (by omega), List.drop_eq_getElem_cons (by omega)]
  simp only [List.getD_eq_getElem?_getD, List.getElem?_eq_getElem (show i < s.length by omega), List.getElem?_eq_getElem hi, Option.getD_some]
theorem looseWayS_gives (s0 : List UInt8) (hl0 : Lets s0) (hn0 : s0.length ≤ 200) : Gives G 395 [.d (.s (.str s0))] ⟨[.s (.str (looseW s0)), .s (.int .i64 0)], []⟩ := by
  have hw := l02Way_gives s0
  rw [wayC_zero hl0 hn0] at hw
  refine Gives.by rfl rfl (W.seq ?_)
  repeat' first | ((with_reducible apply WR.c_s (f := 107) (fn := Code.f107)); exact rfl; exact rfl; exact rfl; (exact rfl); (focus ((repeat' first | exact args_nil | apply args_d | exact toD_d rfl | exact rfl); done)); exact hw) | ((with_reducible apply WR.mv); exact rfl; exact rfl) | ((with_reducible apply WR.nil)) | (with_reducible refine andThen_n ?_) | (with_reducible refine W.seq ?_) | (with_reducible refine W.region ?_) | (with_reducible refine W.skip ?_) | (with_reducible refine W.block ?_) | ((with_reducible apply W.condF); exact rfl) | (intro hb; try (exfalso; omega)) | ((with_reducible apply WR.neq); exact rfl; exact rfl; exact rfl)
  (refine (?_ : W _ (Code.loop _) _ _))
  (refine W.loopM [] [] [] (fun zz : (Nat) × (List UInt8) => match zz with | (i, s) => (s.length * 300 + (s.length - i) : Nat)) (fun zz : (Nat) × (List UInt8) => match zz with | (i, s) => ((i ≤ s.length ∧ s.length ≤ 200) ∧ Lets s ∧ looseS s = looseS s0 ∧ ∀ j, j < i → j + 1 < s.length → s.getD j 0 ≠ opp (s.getD (j + 1) 0) : Prop)) (fun zz : (Nat) × (List UInt8) => match zz with | (i, s) => [(0, .a (.d (.s (.str s)))), (5, .a (.d (.s (.int .i64 (i : Nat)))))]) (fun zz : (Nat) × (List UInt8) => match zz with | (i, s) => []) (0, s0) (⟨⟨by omega, hn0⟩, hl0, rfl, fun j hj => by omega⟩) ⟨rfl, rfl, trivial⟩ trivial trivial ?_)
  rintro ⟨i, s⟩ σ hP hN; dsimp only [setL, putL] at hP ⊢
  obtain ⟨⟨hi, hs2⟩, hl, hlo, hno⟩ := hP
  by_cases hil : i + 1 < s.length
  · have ha := lets_gB hl i (by omega)
    have hb := lets_gB hl (i + 1) hil
    have hl1 := l02Letter_gives (gB s i)
    have hl2 := l02Letter_gives (gB s (i + 1))
    have hb1 := lt_b (gB s i)
    have hb2 := lt_b (gB s (i + 1))
    have hun : lt (gB s i) + lt (gB s (i + 1)) = 3 ↔ s.getD i 0 = opp (s.getD (i + 1) 0) := undo_iff ha hb
    have e1 : ((i : Int) + 1).toNat = i + 1 := by omega
    have hg1 : gB s ((i : Int) + 1).toNat = gB s (i + 1) := by rw [e1]
    have hg0 : gB s (i : Int).toNat = gB s i := by rw [Int.toNat_natCast]
    have hbd : ∀ m, bound (some (.a (.d (.s (.int .i64 ((i : Int) + 2)))))) m = some (i + 2) := fun m => by
      show (if 0 ≤ ((i : Int) + 2) then some ((i : Int) + 2).toNat else none) = _
      rw [if_pos (by omega)]; rfl
    generalize hA : lt (gB s i) = A at hl1 hb1 hun ha
    generalize hB : lt (gB s (i + 1)) = B at hl2 hb2 hun hb
    repeat' first | ((with_reducible apply WH.ist (n := ((i : Int) + 1))); exact rfl; exact rfl; exact rfl; exact (by omega); rw [hg1]) | ((with_reducible apply WH.c_s (f := 110) (fn := Code.f110)); exact rfl; exact rfl; exact rfl; (exact rfl); (focus ((repeat' first | exact args_nil | apply args_d | exact toD_d rfl | exact rfl); done)); exact hl1; exact rfl) | ((with_reducible apply WH.c_s (f := 110) (fn := Code.f110)); exact rfl; exact rfl; exact rfl; (exact rfl); (focus ((repeat' first | exact args_nil | apply args_d | exact toD_d rfl | exact rfl); done)); exact hl2; exact rfl) | ((with_reducible apply WH.sst (l := i + 2) (h := s.length)); exact rfl; exact rfl; exact hbd _; exact rfl; exact ⟨by omega, by omega⟩) | ((with_reducible apply WH.sad); exact rfl; exact rfl; exact rfl; (simp only [List.length_take, List.length_drop]; omega)) | ((with_reducible apply WR.mv); exact rfl; exact rfl) | ((with_reducible apply WH.mv); exact rfl; exact rfl; exact rfl) | ((with_reducible apply WH.ad); exact rfl; exact rfl; exact rfl; (first | exact i64_in _ (by omega))) | ((with_reducible apply WR.nil)) | (with_reducible refine andThen_n ?_) | (with_reducible refine inB_n ?_) | (with_reducible refine W.seq ?_) | (with_reducible refine W.region ?_) | (with_reducible refine W.skip ?_) | (with_reducible refine W.block ?_) | ((with_reducible apply W.condT); exact rfl) | ((with_reducible apply W.condF); exact rfl) | ((with_reducible apply WH.nil)) | (with_reducible refine W.draw ?_) | (intro hb; try (exfalso; omega)) | ((with_reducible apply WR.ad); exact rfl; exact rfl; exact rfl; (first | exact i64_in _ (by omega))) | ((with_reducible apply WH.ist); exact rfl; exact rfl; exact rfl; (first | omega)) | ((with_reducible apply WH.sst); exact rfl; exact rfl; (first | exact bound_str | exact rfl); (first | exact bound_str | exact rfl); exact ⟨by omega, by omega⟩) | ((with_reducible apply WR.lss); exact rfl; exact rfl; exact rfl) | ((with_reducible apply WR.le); exact rfl; exact rfl) | ((with_reducible apply WH.eql); exact rfl; exact rfl; exact rfl)
    · have hu := hun.1 (by assumption)
      have hcut := loose_cut s hil
      have hs' : looseS (s.take i ++ s.drop (i + 2)) = looseS s0 := by
        rw [← hlo]
        conv => rhs; rw [hcut]
        exact (loose_pair hu _ _).symm
      have e2 : (s.drop 0).take (i - 0) ++ (s.drop (i + 2)).take (s.length - (i + 2)) = s.take i ++ s.drop (i + 2) := by
        rw [List.drop_zero, Nat.sub_zero, List.take_of_length_le (l := s.drop (i + 2)) (by rw [List.length_drop]; omega)]
      have e3 : (s.take i ++ s.drop (i + 2)).length = s.length - 2 := by rw [List.length_append, List.length_take, List.length_drop]; omega
      rw [e2]
      (refine W.nxt (0, s.take i ++ s.drop (i + 2)) (by first | omega | (dsimp only; omega)) ?_ ⟨rfl, rfl, trivial⟩ trivial trivial trivial trivial); (try dsimp only)
      refine ⟨⟨by omega, by omega⟩, ?_, hs', fun j hj => by omega⟩
      exact (hl.take i).app fun b hb => hl b (List.mem_of_mem_drop hb)
    · have hu : ¬ s.getD i 0 = opp (s.getD (i + 1) 0) := fun k => absurd (hun.2 k) (by assumption)
      (refine W.nxt (i + 1, s) (by first | omega | (dsimp only; omega)) ?_ ⟨rfl, rfl, trivial⟩ trivial trivial trivial trivial); (try dsimp only)
      refine ⟨⟨by omega, hs2⟩, hl, hlo, fun j hj hj2 => ?_⟩
      by_cases e : j = i
      · subst e; exact hu
      · exact hno j (by omega) hj2
  · have hd : looseW s = s := loose_done (rdc_at.2 fun j hj => hno j (by omega) hj)
    have : looseW s0 = s := by rw [← hd]; unfold looseW; rw [hlo]
    rw [this]
    repeat' first | ((with_reducible apply WR.mv); exact rfl; exact rfl) | ((with_reducible apply WR.nil)) | (with_reducible refine andThen_n ?_) | (with_reducible refine andThen_x ?_) | (with_reducible refine inB_x ?_) | (with_reducible refine W.seq ?_) | (with_reducible refine W.region ?_) | (with_reducible refine W.ret ?_) | (with_reducible refine W.exit ?_) | ((with_reducible apply W.condF); exact rfl) | ((with_reducible apply Done.f); (intro hh hh2; exact (nomatch hh2)); (focus ((repeat' first | exact all_nil | apply all_cons | exact res_tmp rfl); done)); (focus ((repeat' first | exact all_nil | apply all_cons | exact retOf_s rfl); done)); exact rfl; (focus ((repeat' first | exact outs_nil | apply outs_d); done))) | (intro hb; try (exfalso; omega)) | ((with_reducible apply WR.ad); exact rfl; exact rfl; exact rfl; (first | exact i64_in _ (by omega))) | ((with_reducible apply WR.lss); exact rfl; exact rfl; exact rfl) | ((with_reducible apply WR.le); exact rfl; exact rfl)
    rfl
theorem homeP_near : ∀ (n : Nat) (d : Nat → Int) (c : Cel) (i : Nat), i < (homeP w h d n c).length → gC (c :: homeP w h d n c) (i + 1) ∈ Near (gC (c :: homeP w h d n c) i).1 (gC (c :: homeP w h d n c) i).2
  | 0, d, c, i, hi => by simp [homeP] at hi
  | n + 1, d, c, i, hi => by
    cases he : nextH w h d c with
    | none => rw [homeP, he] at hi; simp at hi
    | some e =>
      have e1 : homeP w h d (n + 1) c = e :: homeP w h d n e := by rw [homeP, he]
      rw [e1] at hi ⊢
      cases i with
      | zero => exact List.mem_of_find?_eq_some he
      | succ i => exact homeP_near n d e i (by simpa using hi)
theorem homeP_has : ∀ (n : Nat) (d : Nat → Int) (c : Cel), ∀ e ∈ homeP w h d n c, Has w h e.1 e.2
  | 0, d, c => fun e he => by simp [homeP] at he
  | n + 1, d, c => fun e he => by
    cases hx : nextH w h d c with
    | none => rw [homeP, hx] at he; simp at he
    | some a =>
      rw [homeP, hx] at he
      rcases List.mem_cons.1 he with rfl | he
      · have hq : nextP w h d c e := by simpa using List.find?_some hx
        exact hq.1
      · exact homeP_has n d a e he
theorem dirs_step : ∀ (c : Cel) (L : List Cel) (i : Nat), i < L.length → (dirs c L).take (i + 1) = (dirs c L).take i ++ [letB (sideK (gC (c :: L) i) (gC (c :: L) (i + 1)))]
  | c, [], i, hi => by simp at hi
  | c, e :: r, 0, _ => rfl
  | c, e :: r, i + 1, hi => by
    have := dirs_step e r i (by simpa using hi)
    show letB (sideK c e) :: (dirs e r).take (i + 1) = letB (sideK c e) :: ((dirs e r).take i ++ _)
    rw [this]; rfl
theorem idx_side {c e : Cel} (he : e ∈ Near c.1 c.2) : idxOf (fun p => e.1 = p.1 ∧ e.2 = p.2) (Near c.1 c.2) 0 = sideK c e := by
  obtain ⟨x, y⟩ := c
  obtain ⟨u, v⟩ := e
  simp only [Near, List.mem_cons, List.not_mem_nil, or_false, Prod.mk.injEq] at he
  simp only [Near, idxOf, sideK, Prod.mk.injEq]
  by_cases h0 : u = x ∧ v = y - 1
  · rw [if_pos h0, if_pos h0]
  rw [if_neg h0, if_neg h0]
  by_cases h1 : u = x - 1 ∧ v = y
  · rw [if_pos h1, if_pos h1]; rfl
  rw [if_neg h1, if_neg h1]
  by_cases h2 : u = x + 1 ∧ v = y
  · rw [if_pos h2, if_pos h2]; rfl
  rw [if_neg h2, if_neg h2]
  have h3 : u = x ∧ v = y + 1 := by
    rcases he with k | k | k | k
    · exact absurd k h0
    · exact absurd k h1
    · exact absurd k h2
    · exact k
  rw [if_pos h3]; rfl
theorem homeFrom_gives (l : IsLawn w h g cs) (hL : LawnOk w h g) (a b : Cel) (hA : Opn w h g a.1 a.2) (hB : Opn w h g b.1 b.2) (h0 : 0 ≤ steps w h g b (ix a)) :
    Gives G 396 [aa cs, ac a.1 a.2, ac b.1 b.2] ⟨[.s (.str (homeL w h g a b)), .s (.int .i64 0)], []⟩ := by
  have hs1 := hL.1
  have hs2 := hL.2.1
  have ho := openCode_gives l [a, b] (by simp)
  rw [belowCode_zero.2 ⟨hL, by simp; exact ⟨hA.1, hB.1⟩, by simp; exact ⟨hA, hB⟩⟩] at ho
  have hw := homeward_gives l (by omega) a b hA hB
  rw [if_neg (by omega)] at hw
  have hHl : (homeP w h (steps w h g b) (steps w h g b (ix a)).toNat a).length ≤ 100 := by
    have h2 := homeP_len (w := w) (h := h) (steps w h g b) (steps w h g b (ix a)).toNat a
    have h3 := (steps_b (g := g) ⟨by omega, by omega⟩ hB.1 (ix a)).2
    omega
  have hnear := homeP_near (w := w) (h := h) (steps w h g b (ix a)).toNat (steps w h g b) a
  have hhas := homeP_has (w := w) (h := h) (steps w h g b (ix a)).toNat (steps w h g b) a
  have hstep := dirs_step a (homeP w h (steps w h g b) (steps w h g b (ix a)).toNat a)
  have hdl := dirs_len a (homeP w h (steps w h g b) (steps w h g b (ix a)).toNat a)
  unfold homeL
  unfold wayHome at hw
  generalize homeP w h (steps w h g b) (steps w h g b (ix a)).toNat a = P at hw hHl hnear hhas hstep hdl ⊢
  have hTh : ∀ e ∈ a :: P, Has w h e.1 e.2 := fun e he => by
    rcases List.mem_cons.1 he with rfl | he
    · exact hA.1
    · exact hhas e he
  rw [show [a] ++ P = a :: P from rfl] at hw
  have hTl : (a :: P).length = P.length + 1 := rfl
  generalize a :: P = T at hw hnear hstep hTh hTl
  generalize dirs a P = D at hstep hdl ⊢
  refine Gives.by rfl rfl (W.seq ?_)
  repeat' first | ((with_reducible apply WR.c_s (f := 37) (fn := Code.f37)); exact rfl; exact rfl; exact rfl; (exact rfl); (focus ((repeat' first | exact args_nil | apply args_d | exact toD_d rfl | exact toD_slC rfl rfl (by first | exact rfl) | exact rfl); done)); exact ho) | ((with_reducible apply WR.c_os (f := 173) (fn := Code.f173)); exact rfl; exact rfl; exact rfl; (exact rfl); (focus ((repeat' first | exact args_nil | apply args_d | exact toD_d rfl | exact toD_slC rfl rfl (by first | exact rfl) | exact rfl); done)); exact hw; (exact rfl)) | ((with_reducible apply WR.s2 (l := 1) (h := T.length)); exact rfl; exact rfl; exact rfl; exact rfl; exact ⟨by omega, by omega⟩) | ((with_reducible apply WR.mv); exact rfl; exact rfl) | ((with_reducible apply WR.mvt); exact rfl; exact rfl) | ((with_reducible apply WR.ld); exact rfl; exact rfl; exact rfl; (first | exact ld2 | exact loadC_all (IsLawn.len (by assumption)))) | ((with_reducible apply WR.bx); exact rfl; exact rfl; exact (by first | exact IsLawn.len (by assumption) | exact rfl); (exact rfl)) | ((with_reducible apply WR.nil)) | (with_reducible refine andThen_n ?_) | (with_reducible refine W.seq ?_) | (with_reducible refine W.region ?_) | (with_reducible refine W.skip ?_) | (with_reducible refine W.block ?_) | ((with_reducible apply W.condF); exact rfl) | (intro hb; try (exfalso; omega)) | ((with_reducible apply WR.ex); exact rfl; exact rfl) | ((with_reducible apply WR.neq); exact rfl; exact rfl; exact rfl) | ((with_reducible apply WR.bs2); exact rfl; exact rfl; exact rfl; (exact rfl)) | ((with_reducible apply WR.un); exact rfl; exact rfl) | ((with_reducible apply WR.le); exact rfl; exact rfl)
  (refine (?_ : W _ (Code.loop _) _ _))
  (refine W.loopM [9, 33] [1026] [41] (fun zz : (Nat) × (List UInt8) => match zz with | (i, s) => (P.length - i : Nat)) (fun zz : (Nat) × (List UInt8) => match zz with | (i, s) => (i ≤ P.length ∧ s = D.take i ∧ s.length = i : Prop)) (fun zz : (Nat) × (List UInt8) => match zz with | (i, s) => [(11, .a (.d (.s (.str s)))), (34, .a (.d (.s (.int .i64 (i : Nat)))))]) (fun zz : (Nat) × (List UInt8) => match zz with | (i, s) => []) (0, []) (⟨by omega, by simp, rfl⟩) ⟨rfl, rfl, trivial⟩ trivial ⟨np, trivial⟩ ?_)
  rintro ⟨i, s⟩ σ hP hN; dsimp only [setL, putL] at hP ⊢; obtain ⟨n41, hN⟩ := hN
  obtain ⟨hi, hs, hsl⟩ := hP
  by_cases hil : i < P.length
  · have hc := hTh _ (gC_mem (l := T) (k := i) (by omega))
    simp only [Has] at hc
    have hnr := hnear i hil
    have hst := hstep i hil
    have hbs := beside_gives (gC T i).1 (gC T i).2 (by omega)
    have hx := index_gives (Near (gC T i).1 (gC T i).2) (by simp [Near]) (gC T (i + 1)).1 (gC T (i + 1)).2
    rw [idx_side hnr] at hx
    have hkb := sideK_b (gC T i) (gC T (i + 1))
    have hN4 : (Near (gC T i).1 (gC T i).2).length = 4 := rfl
    have hld : loadC 2 true (encC T) (0 + ((i : Int) + 1).toNat * 2) = some (.a (.d (.agg [.int .i8 (gC T (i + 1)).1, .int .i8 (gC T (i + 1)).2]))) := by
      rw [show ((i : Int) + 1).toNat = i + 1 by omega, ldC (by omega)]
    generalize Near (gC T i).1 (gC T i).2 = N at hbs hx hN4
    rw [← hN4] at hbs
    generalize sideK (gC T i) (gC T (i + 1)) = k at hx hkb hst
    repeat' first | ((with_reducible apply WH.c_o (f := 89) (fn := Code.f89)); exact rfl; exact rfl; exact rfl; (exact rfl); (focus ((repeat' first | exact args_nil | apply args_d | exact toD_d rfl | exact toD_slC rfl rfl (by first | exact rfl | omega) | exact rfl); done)); exact hbs; (first | exact rfl | assumption); exact rfl; exact rfl) | ((with_reducible apply WH.c_s (f := 27) (fn := Code.f27)); exact rfl; exact rfl; exact rfl; (exact rfl); (focus ((repeat' first | exact args_nil | apply args_d | exact toD_d rfl | exact toD_slC rfl rfl (by first | exact rfl | omega) | exact rfl); done)); exact hx; exact rfl) | ((with_reducible apply WH.ld); exact rfl; exact rfl; exact rfl; exact hld; exact rfl) | ((with_reducible apply WR.sl1); exact rfl; exact rfl; exact rfl; exact rfl; omega) | ((with_reducible apply WR.mv); exact rfl; exact rfl) | ((with_reducible apply WH.mv); exact rfl; exact rfl; exact rfl) | ((with_reducible apply WR.sad); exact rfl; exact rfl; exact rfl; (first | omega | (simp only [List.length_append, List.length_cons, List.length_nil, List.length_map]; omega))) | ((with_reducible apply WR.ad); exact rfl; exact rfl; exact rfl; (first | exact i64_in _ (by omega) | assumption)) | ((with_reducible apply WR.nil)) | (with_reducible refine andThen_n ?_) | (with_reducible refine inB_n ?_) | (with_reducible refine W.seq ?_) | (with_reducible refine W.region ?_) | (with_reducible refine W.skip ?_) | (with_reducible refine W.block ?_) | ((with_reducible apply W.condT); exact rfl) | ((with_reducible apply WH.nil)) | (with_reducible refine W.draw ?_) | (intro hb; try (exfalso; omega)) | ((with_reducible apply WH.isn); exact rfl; exact rfl; exact rfl; omega; exact rfl) | ((with_reducible apply WH.is); exact rfl; exact rfl; exact rfl; omega; exact rfl) | ((with_reducible apply WH.ld); exact rfl; exact rfl; exact rfl; (first | exact ldC (by first | omega)); exact rfl) | ((with_reducible apply WR.lss); exact rfl; exact rfl; exact rfl) | ((with_reducible apply WH.ad); exact rfl; exact rfl; exact rfl; (first | exact i64_in _ (by omega) | assumption))
    (refine W.nxt (i + 1, s ++ [letB k]) (by first | omega | (dsimp only; omega)) ?_ ⟨rfl, rfl, trivial⟩ trivial ⟨rfl, rfl, trivial⟩ ⟨rfl, trivial⟩ ⟨np, trivial⟩); (try dsimp only)
    exact ⟨by omega, by rw [hst, hs], by rw [List.length_append, List.length_singleton]; omega⟩
  · rw [show D = s by rw [hs, List.take_of_length_le (by omega)]]
    repeat' first | ((with_reducible apply WR.mv); exact rfl; exact rfl) | ((with_reducible apply WR.nil)) | (with_reducible refine andThen_n ?_) | (with_reducible refine andThen_x ?_) | (with_reducible refine inB_x ?_) | (with_reducible refine W.seq ?_) | (with_reducible refine W.region ?_) | (with_reducible refine W.ret ?_) | (with_reducible refine W.exit ?_) | ((with_reducible apply W.condF); exact rfl) | ((with_reducible apply Done.f); (intro hh hh2; exact (nomatch hh2)); (focus ((repeat' first | exact all_nil | apply all_cons | exact res_tmp rfl); done)); (focus ((repeat' first | exact all_nil | apply all_cons | exact retOf_s rfl); done)); exact rfl; (focus ((repeat' first | exact outs_nil | apply outs_d); done))) | (intro hb; try (exfalso; omega)) | ((with_reducible apply WR.lss); exact rfl; exact rfl; exact rfl)
    rfl
theorem nx_get (c : Cel) {k : Nat} (hk : k < 4) : (Near c.1 c.2)[k]? = some (nx c (k : Nat)) := by
  unfold nx
  rw [Int.toNat_natCast]
  exact gC_get (l := Near c.1 c.2) hk
theorem homeFromS_gives (l : IsLawn w h g cs) (hL : LawnOk w h g) (a b : Cel) (hA : Opn w h g a.1 a.2) (hB : Opn w h g b.1 b.2) (h0 : 0 ≤ steps w h g b (ix a)) :
    Gives G 397 [aa cs, ac a.1 a.2, ac b.1 b.2] ⟨[.s (.str (homeL w h g a b)), .s (.int .i64 0)], []⟩ := by
  have hs1 := hL.1
  have hs2 := hL.2.1
  have hAH := hA.1
  have hBH := hB.1
  simp only [Has] at hAH hBH
  have ht := l01Told_gives l true
  rw [belowCode_zero.2 ⟨hL, rfl, trivial⟩] at ht
  have hia := l01Is_gives l a.1 a.2 (by omega)
  have hib := l01Is_gives l b.1 b.2 (by omega)
  have hoa := l01Open_gives l a.1 a.2 (by omega)
  have hob := l01Open_gives l b.1 b.2 (by omega)
  have hstB : Gives G 43 [ar cs, ac b.1 b.2, ab false] ⟨[.agg (grid .i64 (steps w h g b))], []⟩ := l01Reach_gives l ⟨by omega, by omega⟩ false b.1 b.2 hB.1
  have hH := steps_homes (g := g) ⟨by omega, by omega⟩ hB
  have hfree := fun (e : Cel) (he : -128 ≤ e.1 ∧ e.1 ≤ 127 ∧ -128 ≤ e.2 ∧ e.2 ≤ 127) => l02Free_gives l ⟨by omega, by omega⟩ e.1 e.2 he
  rw [decide_eq_true (show 0 ≤ a.1 ∧ a.1 < w ∧ 0 ≤ a.2 ∧ a.2 < h from hA.1)] at hia
  rw [decide_eq_true (show 0 ≤ b.1 ∧ b.1 < w ∧ 0 ≤ b.2 ∧ b.2 < h from hB.1)] at hib
  rw [decide_eq_true hA.2] at hoa
  rw [decide_eq_true hB.2] at hob
  unfold homeL
  generalize steps w h g b = d at hstB hH h0 ⊢
  have hba := hH.b (ix a)
  obtain ⟨D, hD⟩ : ∃ D, D = dirs a (homeP w h d (d (ix a)).toNat a) := ⟨_, rfl⟩
  rw [← hD]
  have h0' : ¬ d (10 * a.2.toNat + a.1.toNat) < 0 := by simp only [ix] at h0; omega
  refine Gives.by rfl rfl (W.seq ?_)
  repeat' first | ((with_reducible apply WR.c_s (f := 50) (fn := Code.f50)); exact rfl; exact rfl; exact rfl; (exact rfl); (focus ((repeat' first | exact args_nil | apply args_d | exact toD_d rfl | exact toD_ptr rfl rfl | exact rfl); done)); exact hia) | ((with_reducible apply WR.c_s (f := 50) (fn := Code.f50)); exact rfl; exact rfl; exact rfl; (exact rfl); (focus ((repeat' first | exact args_nil | apply args_d | exact toD_d rfl | exact toD_ptr rfl rfl | exact rfl); done)); exact hib) | ((with_reducible apply WR.c_s (f := 72) (fn := Code.f72)); exact rfl; exact rfl; exact rfl; (exact rfl); (focus ((repeat' first | exact args_nil | apply args_d | exact toD_d rfl | exact toD_ptr rfl rfl | exact rfl); done)); exact hoa) | ((with_reducible apply WR.c_s (f := 72) (fn := Code.f72)); exact rfl; exact rfl; exact rfl; (exact rfl); (focus ((repeat' first | exact args_nil | apply args_d | exact toD_d rfl | exact toD_ptr rfl rfl | exact rfl); done)); exact hob) | ((with_reducible apply WR.c_s (f := 84) (fn := Code.f84)); exact rfl; exact rfl; exact rfl; (exact rfl); (focus ((repeat' first | exact args_nil | apply args_d | exact toD_d rfl | exact toD_ptr rfl rfl | exact rfl); done)); exact ht) | ((with_reducible apply WR.c_a (f := 43) (fn := Code.f43)); exact rfl; exact rfl; exact rfl; (exact rfl); (focus ((repeat' first | exact args_nil | apply args_d | exact toD_d rfl | exact toD_ptr rfl rfl | exact rfl); done)); exact hstB) | ((with_reducible apply WR.mv); exact rfl; exact rfl) | ((with_reducible apply WH.ld); exact rfl; exact rfl; exact rfl; (first | exact ld2 | exact ldG (by omega)); exact rfl) | ((with_reducible apply WH.lx); exact rfl; exact rfl; exact rfl) | ((with_reducible apply WR.ld); exact rfl; exact rfl; exact rfl; (first | exact ld2 | exact ldG (by omega))) | ((with_reducible apply WH.ia); exact rfl; exact rfl; exact rfl; omega; exact rfl) | ((with_reducible apply WH.fa); exact rfl; exact rfl; exact rfl) | ((with_reducible apply WR.bx); exact rfl; exact rfl; exact (by first | exact List.length_replicate .. | exact grid_len | exact IsLawn.len (by assumption) | exact rfl); (exact rfl)) | ((with_reducible apply WR.st); exact rfl; exact rfl; exact rfl; exact storeAll (by first | exact List.length_replicate .. | exact grid_len | exact IsLawn.len (by assumption) | exact rfl) (by first | exact List.length_replicate .. | exact grid_len | exact IsLawn.len (by assumption) | exact rfl)) | ((with_reducible apply WR.nil)) | (with_reducible refine andThen_n ?_) | (with_reducible refine W.seq ?_) | (with_reducible refine W.region ?_) | (with_reducible refine W.skip ?_) | (with_reducible refine W.block ?_) | ((with_reducible apply W.condF); exact rfl) | ((with_reducible apply WH.nil)) | (with_reducible refine W.draw ?_) | (intro hb; try (exfalso; omega)) | ((with_reducible apply WR.un); exact rfl; exact rfl) | ((with_reducible apply WR.pk); exact rfl; exact rfl) | ((with_reducible apply WR.al); exact rfl; (exact rfl)) | ((with_reducible apply WR.neq); exact rfl; exact rfl; exact rfl) | ((with_reducible apply WH.lss); exact rfl; exact rfl; exact rfl)
  (refine (?_ : W _ (Code.loop _) _ _))
  (refine W.loopM [3, 4, 5, 9] [3, 5, 9] [12] (fun zz : (Cel) × (List UInt8) => match zz with | (c, s) => ((d (ix c)).toNat : Nat)) (fun zz : (Cel) × (List UInt8) => match zz with | (c, s) => (Has w h c.1 c.2 ∧ 0 ≤ d (ix c) ∧ D = s ++ dirs c (homeP w h d (d (ix c)).toNat c) ∧ s.length + (d (ix c)).toNat ≤ 100 : Prop)) (fun zz : (Cel) × (List UInt8) => match zz with | (c, s) => [(10, .a (.d (.s (.str s))))]) (fun zz : (Cel) × (List UInt8) => match zz with | (c, s) => [(4, .flat false ([.int .i8 c.1, .int .i8 c.2]))]) (a, []) (⟨hA.1, h0, hD, by simp; omega⟩) ⟨rfl, trivial⟩ ⟨rfl, trivial⟩ ⟨np, trivial⟩ ?_)
  rintro ⟨c, s⟩ σ hP hN; dsimp only [setL, putL] at hP ⊢; obtain ⟨n12, hN⟩ := hN
  obtain ⟨hc, h0c, hT, hlen⟩ := hP
  by_cases hcb : c = b
  · have hd0 : d (ix c) = 0 := by rw [hcb]; exact hH.home
    repeat' first | ((with_reducible apply WR.mv); exact rfl; exact rfl) | ((with_reducible apply WR.ld); exact rfl; exact rfl; exact rfl; (first | exact ld2)) | ((with_reducible apply WR.nil)) | (with_reducible refine andThen_n ?_) | (with_reducible refine andThen_x ?_) | (with_reducible refine inB_x ?_) | (with_reducible refine W.seq ?_) | (with_reducible refine W.region ?_) | (with_reducible refine W.skip ?_) | (with_reducible refine W.ret ?_) | (with_reducible refine W.exit ?_) | (with_reducible refine W.block ?_) | ((with_reducible apply W.condT); exact rfl) | ((with_reducible apply W.condF); exact rfl) | ((with_reducible apply Done.f); (intro hh hh2; exact (nomatch hh2)); (focus ((repeat' first | exact all_nil | apply all_cons | exact res_tmp rfl); done)); (focus ((repeat' first | exact all_nil | apply all_cons | exact retOf_s rfl); done)); exact rfl; (focus ((repeat' first | exact outs_nil | apply outs_d); done))) | (intro hb; try (exfalso; omega)) | ((with_reducible apply WR.en); exact rfl; exact rfl; exact rfl)
    · exfalso
      exact (by assumption : ¬ (c.1 = b.1 ∧ c.2 = b.2)) (by rw [hcb]; exact ⟨rfl, rfl⟩)
    · rw [hT, hd0]; simp only [homeP, dirs, Int.toNat_zero, List.append_nil]; rfl
  · obtain ⟨h1c, p, hp, hpn⟩ := hH.next hc h0c hcb
    have hne : ¬ (c.1 = b.1 ∧ c.2 = b.2) := fun hh => hcb (Prod.ext hh.1 hh.2)
    have hbc := hH.b (10 * c.2.toNat + c.1.toNat)
    have hcH := hc
    simp only [Has] at hcH
    repeat' first | ((with_reducible apply WR.mv); exact rfl; exact rfl) | ((with_reducible apply WR.ld); exact rfl; exact rfl; exact rfl; (first | exact ld2)) | ((with_reducible apply WR.nil)) | (with_reducible refine andThen_n ?_) | (with_reducible refine W.seq ?_) | (with_reducible refine W.region ?_) | (with_reducible refine W.skip ?_) | (with_reducible refine W.block ?_) | ((with_reducible apply W.condT); exact rfl) | (intro hb; try (exfalso; omega)) | ((with_reducible apply WR.en); exact rfl; exact rfl; exact rfl)
    (refine (?_ : W _ (Code.loop _) _ _))
    (refine W.loopM [3, 4, 5, 9] [3, 5, 9] [12] (fun j : (Nat) => (4 - j : Nat)) (fun j : (Nat) => (j ≤ 4 ∧ ∀ x ∈ (Near c.1 c.2).take j, ¬ nextP w h d c x : Prop)) (fun j : (Nat) => [(10, .a (.d (.s (.str s)))), (11, .a (.d (.s (.int .i64 (j : Nat)))))]) (fun j : (Nat) => [(4, .flat false ([.int .i8 c.1, .int .i8 c.2]))]) 0 (⟨by omega, by simp⟩) ⟨rfl, rfl, trivial⟩ ⟨rfl, trivial⟩ ⟨np, trivial⟩ ?_)
    rintro j σ hP hN; dsimp only [setL, putL] at hP ⊢; obtain ⟨n12, hN⟩ := hN
    obtain ⟨hj, hno⟩ := hP
    by_cases hj4 : j < 4
    · have hget := nx_get c hj4
      have hnr := nx_near c (k := (j : Nat)) (by omega)
      have hn2 := l02Next_gives c (j : Nat) (by omega) (by omega)
      have hf := hfree (nx c (j : Nat)) (by omega)
      have hsd : sideK c (nx c (j : Nat)) = (j : Nat) := sideK_of (by omega)
      have hgg : gC (Near c.1 c.2) j = nx c (j : Nat) := by unfold nx; rw [Int.toNat_natCast]
      have hbe := hH.b (10 * (nx c (j : Nat)).2.toNat + (nx c (j : Nat)).1.toNat)
      have hopn : ∀ e : Cel, Opn w h g e.1 e.2 → 0 ≤ e.1 ∧ e.1 < w ∧ 0 ≤ e.2 ∧ e.2 < h := fun e he => he.1
      generalize hE : nx c (j : Nat) = E at hget hnr hn2 hf hsd hgg hbe
      by_cases hOE : Opn w h g E.1 E.2
      · have hEH := hopn E hOE
        rw [decide_eq_true hOE] at hf
        repeat' first | ((with_reducible apply WR.c_a (f := 109) (fn := Code.f109)); exact rfl; exact rfl; exact rfl; (exact rfl); (focus ((repeat' first | exact args_nil | apply args_d | exact toD_d rfl | exact toD_ptr rfl rfl | exact rfl); done)); exact hn2) | ((with_reducible apply WH.c_s (f := 108) (fn := Code.f108)); exact rfl; exact rfl; exact rfl; (exact rfl); (focus ((repeat' first | exact args_nil | apply args_d | exact toD_d rfl | exact toD_ptr rfl rfl | exact rfl); done)); exact hf; exact rfl) | ((with_reducible apply WR.sl1); exact rfl; exact rfl; exact rfl; exact rfl; omega) | ((with_reducible apply WR.mv); exact rfl; exact rfl) | ((with_reducible apply WH.ld); exact rfl; exact rfl; exact rfl; (first | exact ld2 | exact ldG (by omega)); exact rfl) | ((with_reducible apply WH.lx); exact rfl; exact rfl; exact rfl) | ((with_reducible apply WR.ld); exact rfl; exact rfl; exact rfl; (first | exact ld2 | exact ldG (by omega))) | ((with_reducible apply WH.ia); exact rfl; exact rfl; exact rfl; omega; exact rfl) | ((with_reducible apply WH.fa); exact rfl; exact rfl; exact rfl) | ((with_reducible apply WR.sad); exact rfl; exact rfl; exact rfl; (first | (simp only [List.length_append, List.length_cons, List.length_nil, List.length_map]; omega))) | ((with_reducible apply WR.ad); exact rfl; exact rfl; exact rfl; (first | exact i64_in _ (by omega) | assumption)) | ((with_reducible apply WR.st); exact rfl; exact rfl; exact rfl; exact st2) | ((with_reducible apply WR.nil)) | (with_reducible refine andThen_n ?_) | (with_reducible refine andThen_x ?_) | (with_reducible refine inB_n ?_) | (with_reducible refine inB_x ?_) | (with_reducible refine inB_y rfl ?_) | (with_reducible refine W.seq ?_) | (with_reducible refine W.region ?_) | (with_reducible refine W.skip ?_) | (with_reducible refine W.exit ?_) | (with_reducible refine W.block ?_) | ((with_reducible apply W.condT); exact rfl) | ((with_reducible apply W.condF); exact rfl) | ((with_reducible apply WH.nil)) | (with_reducible refine W.draw ?_) | (intro hb; try (exfalso; omega)) | ((with_reducible apply WR.al); exact rfl; (first | exact rfl | assumption)) | ((with_reducible apply WR.lss); exact rfl; exact rfl; exact rfl) | ((with_reducible apply WH.mv); exact rfl; exact rfl; exact rfl) | ((with_reducible apply WH.eql); exact rfl; exact rfl; exact rfl) | ((with_reducible apply WH.sb); exact rfl; exact rfl; exact rfl; (first | exact i64_in _ (by omega) | assumption)) | ((with_reducible apply WH.pk); exact rfl; exact rfl; exact rfl)
        · have hnp : nextP w h d c E := ⟨hOE.1, by simp only [ix]; omega⟩
          have hn : nextH w h d c = some E := find_first hget (by simpa using hnp) fun x hx => by simpa using hno x hx
          have hst := homeP_step h1c hn hnp.2
          have h2 := hnp.2
          (refine W.nxt (E, s ++ [letB ((j : Nat) : Int)]) (by first | omega | (dsimp only; omega)) ?_ ⟨rfl, trivial⟩ ⟨rfl, trivial⟩ ⟨rfl, rfl, rfl, rfl, trivial⟩ ⟨rfl, rfl, rfl, trivial⟩ ⟨np, trivial⟩); (try dsimp only)
          refine ⟨hOE.1, by omega, ?_, by rw [List.length_append, List.length_singleton]; omega⟩
          rw [hT, hst, List.append_assoc]
          show s ++ (letB (sideK c E) :: dirs E _) = _
          rw [hsd]; rfl
        · (refine W.nxt (j + 1) (by first | omega | (dsimp only; omega)) ?_ ⟨rfl, rfl, trivial⟩ ⟨rfl, trivial⟩ ⟨rfl, rfl, rfl, rfl, trivial⟩ ⟨rfl, rfl, rfl, trivial⟩ ⟨np, trivial⟩); (try dsimp only)
          exact ⟨by omega, (all_snoc (show j < (Near c.1 c.2).length from hj4)).2 ⟨hno, fun hh => by rw [hgg] at hh; have h3 := hh.2; simp only [ix] at h3; omega⟩⟩
      · rw [decide_eq_false hOE] at hf
        repeat' first | ((with_reducible apply WR.c_a (f := 109) (fn := Code.f109)); exact rfl; exact rfl; exact rfl; (exact rfl); (focus ((repeat' first | exact args_nil | apply args_d | exact toD_d rfl | exact toD_ptr rfl rfl | exact rfl); done)); exact hn2) | ((with_reducible apply WH.c_s (f := 108) (fn := Code.f108)); exact rfl; exact rfl; exact rfl; (exact rfl); (focus ((repeat' first | exact args_nil | apply args_d | exact toD_d rfl | exact toD_ptr rfl rfl | exact rfl); done)); exact hf; exact rfl) | ((with_reducible apply WR.mv); exact rfl; exact rfl) | ((with_reducible apply WH.ld); exact rfl; exact rfl; exact rfl; (first | exact ld2); exact rfl) | ((with_reducible apply WR.ld); exact rfl; exact rfl; exact rfl; (first | exact ld2)) | ((with_reducible apply WH.off); exact rfl) | ((with_reducible apply WR.ad); exact rfl; exact rfl; exact rfl; (first | exact i64_in _ (by omega) | assumption)) | ((with_reducible apply WR.st); exact rfl; exact rfl; exact rfl; exact st2) | ((with_reducible apply WR.nil)) | (with_reducible refine andThen_n ?_) | (with_reducible refine inB_n ?_) | (with_reducible refine W.seq ?_) | (with_reducible refine W.region ?_) | (with_reducible refine W.skip ?_) | (with_reducible refine W.block ?_) | ((with_reducible apply W.condT); exact rfl) | ((with_reducible apply W.condF); exact rfl) | ((with_reducible apply WH.nil)) | (with_reducible refine W.draw ?_) | (intro hb; try (exfalso; omega)) | ((with_reducible apply WR.al); exact rfl; (first | exact rfl | assumption)) | ((with_reducible apply WR.lss); exact rfl; exact rfl; exact rfl) | ((with_reducible apply WH.mv); exact rfl; exact rfl; exact rfl) | ((with_reducible apply WH.pk); exact rfl; exact rfl; exact rfl)
        (refine W.nxt (j + 1) (by first | omega | (dsimp only; omega)) ?_ ⟨rfl, rfl, trivial⟩ ⟨rfl, trivial⟩ ⟨rfl, rfl, rfl, rfl, trivial⟩ ⟨rfl, rfl, rfl, trivial⟩ ⟨np, trivial⟩); (try dsimp only)
        exact ⟨by omega, (all_snoc (show j < (Near c.1 c.2).length from hj4)).2 ⟨hno, fun hh => by rw [hgg] at hh; exact absurd (hH.op _ hh.1 (by rw [hh.2]; omega)) hOE⟩⟩
    · exfalso
      rw [List.take_of_length_le (show (Near c.1 c.2).length ≤ j by show 4 ≤ j; omega)] at hno
      exact hno p hp hpn
theorem stepsToS_gives (l : IsLawn w h g cs) (hL : LawnOk w h g) (a b : Cel) (hA : Opn w h g a.1 a.2) (hB : Opn w h g b.1 b.2) (h0 : 0 ≤ steps w h g a (ix b)) :
    Gives G 398 [aa cs, ac a.1 a.2, ac b.1 b.2] ⟨[.s (.int .i64 (steps w h g a (ix b))), .s (.int .i64 0)], []⟩ := by
  have hs1 := hL.1
  have hs2 := hL.2.1
  have hAH := hA.1
  have hBH := hB.1
  simp only [Has] at hAH hBH
  have ht := l01Told_gives l true
  rw [belowCode_zero.2 ⟨hL, rfl, trivial⟩] at ht
  have hia := l01Is_gives l a.1 a.2 (by omega)
  have hib := l01Is_gives l b.1 b.2 (by omega)
  have hoa := l01Open_gives l a.1 a.2 (by omega)
  have hob := l01Open_gives l b.1 b.2 (by omega)
  have hst : Gives G 43 [ar cs, ac a.1 a.2, ab false] ⟨[.agg (grid .i64 (steps w h g a))], []⟩ := l01Reach_gives l ⟨by omega, by omega⟩ false a.1 a.2 hA.1
  rw [decide_eq_true (show 0 ≤ a.1 ∧ a.1 < w ∧ 0 ≤ a.2 ∧ a.2 < h from hA.1)] at hia
  rw [decide_eq_true (show 0 ≤ b.1 ∧ b.1 < w ∧ 0 ≤ b.2 ∧ b.2 < h from hB.1)] at hib
  rw [decide_eq_true hA.2] at hoa
  rw [decide_eq_true hB.2] at hob
  generalize steps w h g a = d at hst h0 ⊢
  have h0' : ¬ d (10 * b.2.toNat + b.1.toNat) < 0 := by simp only [ix] at h0; omega
  refine Gives.by rfl rfl (W.seq ?_)
  repeat' first | ((with_reducible apply WR.c_s (f := 50) (fn := Code.f50)); exact rfl; exact rfl; exact rfl; (exact rfl); (focus ((repeat' first | exact args_nil | apply args_d | exact toD_d rfl | exact toD_ptr rfl rfl | exact all_nil | apply all_cons | exact rfl); done)); exact hia) | ((with_reducible apply WR.c_s (f := 50) (fn := Code.f50)); exact rfl; exact rfl; exact rfl; (exact rfl); (focus ((repeat' first | exact args_nil | apply args_d | exact toD_d rfl | exact toD_ptr rfl rfl | exact all_nil | apply all_cons | exact rfl); done)); exact hib) | ((with_reducible apply WR.c_s (f := 72) (fn := Code.f72)); exact rfl; exact rfl; exact rfl; (exact rfl); (focus ((repeat' first | exact args_nil | apply args_d | exact toD_d rfl | exact toD_ptr rfl rfl | exact all_nil | apply all_cons | exact rfl); done)); exact hoa) | ((with_reducible apply WR.c_s (f := 72) (fn := Code.f72)); exact rfl; exact rfl; exact rfl; (exact rfl); (focus ((repeat' first | exact args_nil | apply args_d | exact toD_d rfl | exact toD_ptr rfl rfl | exact all_nil | apply all_cons | exact rfl); done)); exact hob) | ((with_reducible apply WR.c_s (f := 84) (fn := Code.f84)); exact rfl; exact rfl; exact rfl; (exact rfl); (focus ((repeat' first | exact args_nil | apply args_d | exact toD_d rfl | exact toD_ptr rfl rfl | exact all_nil | apply all_cons | exact rfl); done)); exact ht) | ((with_reducible apply WR.c_a (f := 43) (fn := Code.f43)); exact rfl; exact rfl; exact rfl; (exact rfl); (focus ((repeat' first | exact args_nil | apply args_d | exact toD_d rfl | exact toD_ptr rfl rfl | exact all_nil | apply all_cons | exact rfl); done)); exact hst) | ((with_reducible apply WR.mv); exact rfl; exact rfl) | ((with_reducible apply WH.ld); exact rfl; exact rfl; exact rfl; (first | exact ld2 | exact ldG (by omega)); exact rfl) | ((with_reducible apply WH.lx); exact rfl; exact rfl; exact rfl) | ((with_reducible apply WR.ld); exact rfl; exact rfl; exact rfl; (first | exact ld2 | exact ldG (by omega))) | ((with_reducible apply WH.ia); exact rfl; exact rfl; exact rfl; omega; exact rfl) | ((with_reducible apply WH.fa); exact rfl; exact rfl; exact rfl) | ((with_reducible apply WR.bx); exact rfl; exact rfl; exact (by first | exact List.length_replicate .. | exact grid_len | exact IsLawn.len (by assumption) | exact rfl); (exact rfl)) | ((with_reducible apply WR.nil)) | (with_reducible refine andThen_n ?_) | (with_reducible refine W.seq ?_) | (with_reducible refine W.region ?_) | (with_reducible refine W.skip ?_) | (with_reducible refine W.ret ?_) | ((with_reducible apply W.condF); exact rfl) | ((with_reducible apply Done.f); (intro hh hh2; exact (nomatch hh2)); (focus ((repeat' first | exact all_nil | apply all_cons | exact res_tmp rfl | exact rfl); done)); (focus ((repeat' first | exact all_nil | apply all_cons | exact retOf_s rfl | exact rfl); done)); exact rfl; (focus ((repeat' first | exact outs_nil | apply outs_d | exact rfl); done))) | ((with_reducible apply WH.nil)) | (with_reducible refine W.draw ?_) | (intro hb; try (exfalso; omega)) | ((with_reducible apply WR.un); exact rfl; exact rfl) | ((with_reducible apply WR.pk); exact rfl; exact rfl) | ((with_reducible apply WH.mv); exact rfl; exact rfl; exact rfl) | ((with_reducible apply WR.neq); exact rfl; exact rfl; exact rfl) | ((with_reducible apply WR.al); exact rfl; (exact rfl)) | ((with_reducible apply WR.st); exact rfl; exact rfl; exact rfl; exact storeAll (by first | exact List.length_replicate .. | exact grid_len | exact IsLawn.len (by assumption) | exact rfl) (by first | exact List.length_replicate .. | exact grid_len | exact IsLawn.len (by assumption) | exact rfl)) | ((with_reducible apply WH.lss); exact rfl; exact rfl; exact rfl)
  rfl
end Go.DM
