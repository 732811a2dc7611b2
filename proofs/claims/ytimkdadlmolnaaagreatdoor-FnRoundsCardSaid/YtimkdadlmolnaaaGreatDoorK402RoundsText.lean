/- Numbers as text, texts put together: what the library and the reference give. -/
import Derived.Test.YtimkdadlmolnaaaGreatDoorK402Text
import Derived.Test.YtimkdadlmolnaaaGreatDoorK402Near
import Derived.Test.YtimkdadlmolnaaaGreatDoorK402Beside
set_option linter.unusedSectionVars false
set_option linter.unusedSimpArgs false
set_option linter.unusedVariables false
set_option maxHeartbeats 4000000
namespace Go.DM
variable [Tok]
open Go.IntWalk
theorem join_gives (l : List (List UInt8)) (sep : List UInt8) (h : l.length ≤ 1000000 ∧ (Lib.join l sep).length ≤ 1000000) : Gives G 234 [.d (.sl l.length 1 (encS l)), .d (.s (.str sep))] ⟨[.s (.str (Lib.join l sep))], []⟩ :=
  Gives.given rfl rfl (by
    simp only [joinO, strsOf_encS, Option.bind_some]
    rw [if_pos ⟨trivial, h.1, h.2⟩])
def itemT (n : Int) : List UInt8 := if n < 0 then [45, UInt8.ofNat (48 + (-n).toNat)] else [UInt8.ofNat (48 + n.toNat)]
theorem format_item (n : Int) (h : -9 ≤ n ∧ n ≤ 9) : Gives G 242 [ai .i64 n, ai .i64 10] ⟨[.s (.str (itemT n))], []⟩ :=
  Gives.given rfl rfl (by
    simp only [formatO, itemT]
    by_cases h0 : n < 0
    · rw [if_neg (by omega), if_pos (by omega), if_pos h0, Lib.itoa, if_pos h0, Lib.decDigits, dif_pos (by omega), show n.natAbs = (-n).toNat by omega]
    · rw [if_pos (by omega), if_neg h0, Lib.decDigits, dif_pos (by omega)])
theorem dec_item (n : Int) (h : -9 ≤ n ∧ n ≤ 9) : Gives G 230 [ai .i64 n] ⟨[.s (.str (itemT n))], []⟩ := by
  have hf := format_item n h
  refine Gives.by rfl rfl (W.seq ?_)
  repeat' first | ((with_reducible apply WR.c_s (f := 242) (fn := Code.f242)); exact rfl; exact rfl; exact rfl; (exact rfl); (focus ((repeat' first | exact args_nil | apply args_d | exact toD_d rfl | exact all_nil | apply all_cons | exact rfl); done)); exact hf) | ((with_reducible apply WR.mv); exact rfl; exact rfl) | ((with_reducible apply WR.nil)) | (with_reducible refine andThen_n ?_) | (with_reducible refine W.seq ?_) | (with_reducible refine W.region ?_) | (with_reducible refine W.ret ?_) | ((with_reducible apply Done.f); (intro hh hh2; exact (nomatch hh2)); (focus ((repeat' first | exact all_nil | apply all_cons | exact res_tmp rfl | exact rfl); done)); (focus ((repeat' first | exact all_nil | apply all_cons | exact retOf_s rfl | exact rfl); done)); exact rfl; (focus ((repeat' first | exact outs_nil | apply outs_d | exact rfl); done)))
  all_goals rfl
theorem dec_gives (n : Int) (h : 0 ≤ n ∧ n ≤ 9) : Gives G 230 [ai .i64 n] ⟨[.s (.str [UInt8.ofNat (48 + n.toNat)])], []⟩ := by
  have := dec_item n (by omega)
  unfold itemT at this
  rw [if_neg (by omega)] at this
  exact this
end Go.DM

/- Rounds as text: both sides, the statement. -/
set_option maxHeartbeats 4000000
namespace Go.DM
variable [Tok]
open Go.IntWalk
def oneT (r : Rnd) : List UInt8 := [if r.2 then 104 else 99, UInt8.ofNat (48 + r.1.toNat)]
def toldT (l : List Rnd) : List UInt8 := Lib.join (l.map oneT) [32]
theorem tail_len : ∀ l : List Rnd, (Lib.joinTail [32] (l.map oneT)).length = l.length * 3
  | [] => rfl
  | r :: l => by
    have := tail_len l
    simp only [Lib.joinTail, List.map_cons, List.flatten_cons, List.length_append] at this ⊢
    rw [this]; simp [oneT]; omega
theorem toldT_len (l : List Rnd) : (toldT l).length ≤ l.length * 3 := by
  cases l with
  | nil => simp [toldT, Lib.join_nil]
  | cons r l =>
    unfold toldT
    rw [List.map_cons, Lib.join_cons, List.length_append, tail_len]
    simp [oneT]; omega
abbrev aro (l : List Rnd) : Arg := .d (.sl l.length 2 (encO l))
def RndOk (l : List Rnd) : Prop := (∀ r ∈ l, 0 ≤ r.1 ∧ r.1 ≤ 9) ∧ l.length ≤ 60
instance (l : List Rnd) : Decidable (RndOk l) := inferInstanceAs (Decidable (_ ∧ _))
def textT (l : List Rnd) : List UInt8 := if RndOk l then toldT l else []
theorem roundsText_gives (l : List Rnd) (hl : l.length ≤ 2000000) (hx : ∀ r ∈ l, -128 ≤ r.1 ∧ r.1 ≤ 127) : Gives G 224 [aro l] ⟨[.s (.str (textT l))], []⟩ := by
  refine Gives.by rfl rfl (W.seq ?_)
  repeat' first | ((with_reducible apply WR.mv); exact rfl; exact rfl) | ((with_reducible apply WR.nil)) | (with_reducible refine andThen_n ?_) | (with_reducible refine W.seq ?_) | (with_reducible refine W.region ?_) | (with_reducible refine W.block ?_) | ((with_reducible apply WR.bsS0); exact rfl; (exact rfl)) | ((with_reducible apply WR.le); exact rfl; exact rfl)
  (refine (?_ : W _ (Code.loop _) _ _))
  (refine W.loopM [0, 8, 9] [] [5, 33, 34] (fun zz : (Nat) × (List (List UInt8)) => match zz with | (i, out) => (l.length - i : Nat)) (fun zz : (Nat) × (List (List UInt8)) => match zz with | (i, out) => (i ≤ l.length ∧ out = (l.take i).map oneT ∧ (∀ r ∈ l.take i, 0 ≤ r.1 ∧ r.1 ≤ 9) ∧ (0 < i → l.length ≤ 60) : Prop)) (fun zz : (Nat) × (List (List UInt8)) => match zz with | (i, out) => [(3, .a (.sl 7 0 out.length 1)), (10, .a (.d (.s (.int .i64 (i : Nat)))))]) (fun zz : (Nat) × (List (List UInt8)) => match zz with | (i, out) => [(7, .flat false (encS out))]) (0, []) (⟨by omega, rfl, fun r hr => by simp at hr, fun h => by omega⟩) ⟨rfl, rfl, trivial⟩ ⟨rfl, trivial⟩ ⟨np, np, np, trivial⟩ ?_)
  rintro ⟨i, out⟩ σ hP hN; dsimp only [setL, putL] at hP ⊢; obtain ⟨n5, hN⟩ := hN; obtain ⟨n33, hN⟩ := hN; obtain ⟨n34, hN⟩ := hN
  obtain ⟨hi, ho, hr, h60⟩ := hP
  have hol : out.length = i := by rw [ho, List.length_map, List.length_take]; omega
  by_cases hil : i < l.length
  · have hm := gO_mem hil
    have hb := hx _ hm
    have hst : (l.take (i + 1)).map oneT = out ++ [oneT (gO l i)] := by rw [List.take_add_one, gO_get hil, List.map_append, ← ho]; rfl
    have hmem : ∀ P : Rnd → Prop, (∀ r ∈ l.take i, P r) → P (gO l i) → ∀ r ∈ l.take (i + 1), P r := fun P h1 h2 r hr => by
      rw [List.take_add_one, gO_get hil, List.mem_append] at hr
      rcases hr with hr | hr
      · exact h1 r hr
      · simp only [Option.toList_some, List.mem_singleton] at hr; subst hr; exact h2
    by_cases hok : (0 ≤ (gO l i).1 ∧ (gO l i).1 ≤ 9) ∧ l.length ≤ 60
    · have hd := dec_gives (gO l i).1 hok.1
      repeat' first | ((with_reducible apply WR.c_s (f := 230) (fn := Code.f230)); exact rfl; exact rfl; exact rfl; (exact rfl); (focus ((repeat' first | exact args_nil | apply args_d | exact toD_d rfl | exact rfl); done)); exact hd) | ((with_reducible apply WR.c_p (f := 56) (fn := Code.f56)); exact rfl; exact rfl; exact rfl; (exact rfl); (focus ((repeat' first | exact args_nil | apply args_d | exact toD_d rfl | exact rfl); done)); exact within_gives _ _ _) | ((with_reducible apply WR.mv); exact rfl; exact rfl) | ((with_reducible apply WR.ldd); exact rfl; exact rfl; (first | exact ldOd (by first | omega))) | ((with_reducible apply WR.lx); exact rfl; exact rfl) | ((with_reducible apply WR.fa); exact rfl; exact rfl) | ((with_reducible apply WR.nil)) | (with_reducible refine andThen_n ?_) | (with_reducible refine inB_n ?_) | (with_reducible refine W.seq ?_) | (with_reducible refine W.region ?_) | (with_reducible refine W.skip ?_) | (with_reducible refine W.block ?_) | ((with_reducible apply W.condT); exact rfl) | ((with_reducible apply W.condF); exact rfl) | ((with_reducible apply W.condV); exact rfl) | (intro hb; try (exfalso; omega)) | ((with_reducible apply WR.sad); exact rfl; exact rfl; exact rfl; (first | omega | (simp only [List.length_append, List.length_cons, List.length_nil, List.length_map]; omega))) | ((with_reducible apply WR.bsS1); exact rfl; exact rfl; (first | exact rfl | assumption | (focus ((repeat' first | exact rfl | assumption | (with_reducible apply noPar_set) | ((with_reducible apply noPar_puto); exact rfl) | (with_reducible apply noPar_kill)); done)))) | ((with_reducible apply WR.cv); exact rfl; exact rfl; (first | exact i64_in _ (by omega) | assumption)) | ((with_reducible apply WR.ad); exact rfl; exact rfl; exact rfl; (first | exact i64_in _ (by omega) | assumption)) | ((with_reducible apply WR.le); exact rfl; exact rfl) | ((with_reducible apply WR.apS); exact rfl; exact rfl; exact rfl; exact rfl; (first | omega)) | ((with_reducible apply WR.lss); exact rfl; exact rfl; exact rfl) | ((with_reducible apply WR.gtr); exact rfl; exact rfl; exact rfl) | ((with_reducible apply WR.idn); exact rfl; exact rfl; exact rfl; omega; (first | exact Nat.le_of_eq (encO_length _).symm)) | ((with_reducible apply WR.un); exact rfl; exact rfl) | ((with_reducible apply WR.pk); exact rfl; exact rfl) | ((with_reducible apply WR.al); exact rfl; (first | exact rfl | assumption | (focus ((repeat' first | exact rfl | assumption | (with_reducible apply noPar_set) | ((with_reducible apply noPar_puto); exact rfl) | (with_reducible apply noPar_kill)); done)))) | ((with_reducible apply WR.st); exact rfl; exact rfl; exact rfl; exact st2)
      all_goals first
        | (exfalso; omega)
        | (exfalso; exact absurd hok.1 (by assumption))
        | skip
      · (refine W.nxt (i + 1, out ++ [[104] ++ [UInt8.ofNat (48 + (gO l i).1.toNat)]]) (by first | omega | (dsimp only; omega)) ?_ ⟨rfl, rfl, trivial⟩ ⟨rfl, trivial⟩ ⟨rfl, rfl, rfl, trivial⟩ trivial ⟨np, np, np, trivial⟩); (try dsimp only)
        exact ⟨by omega, by rw [hst, oneT, if_pos (by assumption)]; rfl, hmem _ hr hok.1, fun _ => hok.2⟩
      · (refine W.nxt (i + 1, out ++ [[99] ++ [UInt8.ofNat (48 + (gO l i).1.toNat)]]) (by first | omega | (dsimp only; omega)) ?_ ⟨rfl, rfl, trivial⟩ ⟨rfl, trivial⟩ ⟨rfl, rfl, rfl, trivial⟩ trivial ⟨np, np, np, trivial⟩); (try dsimp only)
        exact ⟨by omega, by rw [hst, oneT, if_neg (by simp_all)]; rfl, hmem _ hr hok.1, fun _ => hok.2⟩
    · have hno : textT l = [] := by
        unfold textT
        rw [if_neg (fun h => hok ⟨h.1 _ hm, h.2⟩)]
      rw [hno]
      repeat' first | ((with_reducible apply WR.c_p (f := 56) (fn := Code.f56)); exact rfl; exact rfl; exact rfl; (exact rfl); (focus ((repeat' first | exact args_nil | apply args_d | exact toD_d rfl | exact all_nil | apply all_cons | exact rfl); done)); exact within_gives _ _ _) | ((with_reducible apply WR.mv); exact rfl; exact rfl) | ((with_reducible apply WR.ldd); exact rfl; exact rfl; (first | exact ldOd (by first | omega))) | ((with_reducible apply WR.lx); exact rfl; exact rfl) | ((with_reducible apply WR.fa); exact rfl; exact rfl) | ((with_reducible apply WR.nil)) | (with_reducible refine andThen_n ?_) | (with_reducible refine andThen_r ?_) | (with_reducible refine inB_r ?_) | (with_reducible refine W.seq ?_) | (with_reducible refine W.region ?_) | (with_reducible refine W.skip ?_) | (with_reducible refine W.ret ?_) | (with_reducible refine W.block ?_) | ((with_reducible apply W.condT); exact rfl) | ((with_reducible apply Done.f); (intro hh hh2; exact (nomatch hh2)); (focus ((repeat' first | exact all_nil | apply all_cons | exact res_tmp rfl | exact rfl); done)); (focus ((repeat' first | exact all_nil | apply all_cons | exact retOf_s rfl | exact rfl); done)); exact rfl; (focus ((repeat' first | exact outs_nil | apply outs_d | exact rfl); done))) | (intro hb; try (exfalso; omega)) | ((with_reducible apply WR.cv); exact rfl; exact rfl; (first | exact i64_in _ (by omega) | assumption)) | ((with_reducible apply WR.le); exact rfl; exact rfl) | ((with_reducible apply WR.off); exact rfl) | ((with_reducible apply WR.lss); exact rfl; exact rfl; exact rfl) | ((with_reducible apply WR.gtr); exact rfl; exact rfl; exact rfl) | ((with_reducible apply WR.idn); exact rfl; exact rfl; exact rfl; omega; (first | exact Nat.le_of_eq (encO_length _).symm)) | ((with_reducible apply WR.un); exact rfl; exact rfl) | ((with_reducible apply WR.pk); exact rfl; exact rfl) | ((with_reducible apply WR.al); exact rfl; (first | exact rfl | assumption)) | ((with_reducible apply WR.st); exact rfl; exact rfl; exact rfl; exact st2)
      all_goals first
        | rfl
        | (exfalso; omega)
        | (exfalso; exact hok ⟨by assumption, by omega⟩)
  · have hit : l.take i = l := List.take_of_length_le (by omega)
    rw [hit] at ho hr
    have hok : RndOk l := ⟨hr, by by_cases h0 : 0 < i; exact h60 h0; omega⟩
    have hT := toldT_len l
    have hj := join_gives out [32] ⟨by have := hok.2; omega, by rw [ho]; have := hok.2; show (toldT l).length ≤ _; omega⟩
    have hres : textT l = Lib.join out [32] := by unfold textT; rw [if_pos hok, ho]; rfl
    rw [hres]
    repeat' first | ((with_reducible apply WR.c_s (f := 234) (fn := Code.f234)); exact rfl; exact rfl; exact rfl; (exact rfl); (focus ((repeat' first | exact args_nil | apply args_d | exact toD_d rfl | exact toD_slX rfl rfl (by first | exact (encS_length _).trans (Nat.mul_one _).symm | exact rfl) | exact all_nil | apply all_cons | exact rfl); done)); exact hj) | ((with_reducible apply WR.mv); exact rfl; exact rfl) | ((with_reducible apply WR.nil)) | (with_reducible refine andThen_n ?_) | (with_reducible refine andThen_x ?_) | (with_reducible refine inB_x ?_) | (with_reducible refine W.seq ?_) | (with_reducible refine W.region ?_) | (with_reducible refine W.ret ?_) | (with_reducible refine W.exit ?_) | ((with_reducible apply W.condF); exact rfl) | ((with_reducible apply Done.f); (intro hh hh2; exact (nomatch hh2)); (focus ((repeat' first | exact all_nil | apply all_cons | exact res_tmp rfl | exact rfl); done)); (focus ((repeat' first | exact all_nil | apply all_cons | exact retOf_s rfl | exact rfl); done)); exact rfl; (focus ((repeat' first | exact outs_nil | apply outs_d | exact rfl); done))) | (intro hb; try (exfalso; omega)) | ((with_reducible apply WR.lss); exact rfl; exact rfl; exact rfl)
    rfl
end Go.DM
