/- The reference's code of cells that have to be open. -/
import Derived.Test.YtadlffkjghjciaaGreatDoorK380All
import Derived.Test.YtadlffkjghjciaaGreatDoorK380Steps
import Derived.Test.YtadlffkjghjciaaGreatDoorK380Text
set_option linter.unusedSectionVars false
set_option linter.unusedSimpArgs false
set_option linter.unusedVariables false
set_option maxHeartbeats 4000000
namespace Go.DM
variable [Tok]
open Go.IntWalk
variable {w h : Int} {g : Nat → Int} {cs : List S}
theorem all_snoc {p : Cel → Prop} {L : List Cel} {i : Nat} (hi : i < L.length) : (∀ c ∈ L.take (i + 1), p c) ↔ (∀ c ∈ L.take i, p c) ∧ p (gC L i) := by
  rw [List.take_add_one, gC_get hi]
  simp only [Option.toList_some, List.mem_append, List.mem_singleton]
  constructor
  · intro h; exact ⟨fun c hc => h c (.inl hc), h _ (.inr rfl)⟩
  · rintro ⟨h1, h2⟩ c (hc | rfl)
    · exact h1 c hc
    · exact h2
abbrev InB (c : Cel) : Prop := -128 ≤ c.1 ∧ c.1 ≤ 127 ∧ -128 ≤ c.2 ∧ c.2 ≤ 127
end Go.DM

/- Ways: their letters, the cells of a way. -/
set_option maxHeartbeats 4000000
namespace Go.DM
variable [Tok]
open Go.IntWalk
variable {w h : Int} {g : Nat → Int} {cs : List S}
def lt (c : Int) : Int := if 78 = c then 0 else if 87 = c then 1 else if 69 = c then 2 else if 83 = c then 3 else -1
theorem lt_b (c : Int) : -1 ≤ lt c ∧ lt c ≤ 3 := by unfold lt; repeat' split <;> omega
theorem l02Letter_gives (c : Int) : Gives G 110 [ai .u8 c] (ri .i64 (lt c)) := by
  refine Gives.by rfl rfl (W.seq ?_)
  unfold lt
  repeat' first | (with_reducible refine W.loop ?_) | ((with_reducible apply WR.ist); exact rfl; exact rfl; exact rfl; exact (by decide)) | ((with_reducible apply WR.mv); exact rfl; exact rfl) | ((with_reducible apply WR.nil)) | (with_reducible refine andThen_n ?_) | (with_reducible refine andThen_x ?_) | (with_reducible refine andThen_r ?_) | (with_reducible refine inB_n ?_) | (with_reducible refine inB_r ?_) | (with_reducible refine inB_x ?_) | (with_reducible refine W.seq ?_) | (with_reducible refine W.region ?_) | (with_reducible refine W.skip ?_) | (with_reducible refine W.ret ?_) | (with_reducible refine W.exit ?_) | (with_reducible refine W.block ?_) | ((with_reducible apply W.condT); exact rfl) | ((with_reducible apply W.condF); exact rfl) | ((with_reducible apply Done.f); (intro hh hh2; exact (nomatch hh2)); (focus ((repeat' first | exact all_nil | apply all_cons | exact res_tmp rfl); done)); (focus ((repeat' first | exact all_nil | apply all_cons | exact retOf_s rfl); done)); exact rfl; (focus ((repeat' first | exact outs_nil | apply outs_d); done))) | (intro hb; try (exfalso; omega)) | ((with_reducible apply WR.lss); exact rfl; exact rfl; exact rfl) | ((with_reducible apply WR.eql); exact rfl; exact rfl; exact rfl) | ((with_reducible apply WR.ad); exact rfl; exact rfl; exact rfl; (first | exact i64_in _ (by omega)))
  · rw [if_pos (by assumption)]; rfl
  · rw [if_neg (by assumption), if_pos (by assumption)]; rfl
  · rw [if_neg (by assumption), if_neg (by assumption), if_pos (by assumption)]; rfl
  · rw [if_neg (by assumption), if_neg (by assumption), if_neg (by assumption), if_pos (by assumption)]; rfl
  · rw [if_neg (by assumption), if_neg (by assumption), if_neg (by assumption), if_neg (by assumption)]; rfl
theorem indexByte_eq (c : UInt8) : Lib.indexByte [78, 87, 69, 83] c = lt c.toNat := by
  have hk : ∀ k : UInt8, (k == c) = decide ((k.toNat : Int) = c.toNat) := fun k => by
    rw [Bool.eq_iff_iff]
    simp only [beq_iff_eq, decide_eq_true_eq, Int.natCast_inj, UInt8.toNat_inj]
  have h1 := hk 78
  have h2 := hk 87
  have h3 := hk 69
  have h4 := hk 83
  simp only [Lib.indexByte, h1, h2, h3, h4, lt]
  have e1 : ((78 : UInt8).toNat : Int) = 78 := rfl
  have e2 : ((87 : UInt8).toNat : Int) = 87 := rfl
  have e3 : ((69 : UInt8).toNat : Int) = 69 := rfl
  have e4 : ((83 : UInt8).toNat : Int) = 83 := rfl
  rw [e1, e2, e3, e4]
  generalize (c.toNat : Int) = n
  by_cases a1 : (78 : Int) = n
  · simp [← a1]
  by_cases a2 : (87 : Int) = n
  · simp [← a2]
  by_cases a3 : (69 : Int) = n
  · simp [← a3]
  by_cases a4 : (83 : Int) = n
  · simp [← a4]
  simp [a1, a2, a3, a4]
theorem indexByte_gives (s : List UInt8) (k : Nat) : Gives G 116 [.d (.s (.str [78, 87, 69, 83])), ai .u8 (gB s k)] (ri .i64 (lt (gB s k))) := by
  refine Gives.given (o := indexByteO) rfl rfl ?_
  unfold gB
  rw [← indexByte_eq]
  show some _ = some _
  simp
def wayC (s : List UInt8) : Int := if (s.length : Int) > 200 then 3 else if ∀ j, j < s.length → 0 ≤ lt (gB s j) then 0 else 5
theorem wayC_ok {s : List UInt8} (hs : ¬ (s.length : Int) > 200) {i : Nat} (hi : ¬ i < s.length) (hP : ∀ j, j < i → 0 ≤ lt (gB s j)) : wayC s = 0 := by
  unfold wayC; rw [if_neg hs, if_pos (fun j hj => hP j (by omega))]
theorem wayC_bad {s : List UInt8} (hs : ¬ (s.length : Int) > 200) {i : Nat} (hi : i < s.length) (hn : lt (gB s i) < 0) : wayC s = 5 := by
  unfold wayC; rw [if_neg hs, if_neg (fun hh => by have := hh i hi; omega)]
theorem l02Way_gives (s : List UInt8) : Gives G 107 [.d (.s (.str s))] (ri .i64 (wayC s)) := by
  refine Gives.by rfl rfl (W.seq ?_)
  repeat' first | ((with_reducible apply WR.mv); exact rfl; exact rfl) | ((with_reducible apply WR.nil)) | (with_reducible refine andThen_n ?_) | (with_reducible refine andThen_r ?_) | (with_reducible refine W.seq ?_) | (with_reducible refine W.region ?_) | (with_reducible refine W.skip ?_) | (with_reducible refine W.ret ?_) | (with_reducible refine W.block ?_) | ((with_reducible apply W.condT); exact rfl) | ((with_reducible apply W.condF); exact rfl) | ((with_reducible apply Done.f); (intro hh hh2; exact (nomatch hh2)); (focus ((repeat' first | exact all_nil | apply all_cons | exact res_tmp rfl); done)); (focus ((repeat' first | exact all_nil | apply all_cons | exact retOf_s rfl); done)); exact rfl; (focus ((repeat' first | exact outs_nil | apply outs_d); done))) | (intro hb; try (exfalso; omega)) | ((with_reducible apply WR.le); exact rfl; exact rfl) | ((with_reducible apply WR.gtr); exact rfl; exact rfl; exact rfl)
  · unfold wayC; rw [if_pos (by assumption)]; rfl
  (refine (?_ : W _ (Code.loop _) _ _))
  (refine W.loopM [0] [] [] (fun i : (Nat) => (s.length - i : Nat)) (fun i : (Nat) => (i ≤ s.length ∧ ∀ j, j < i → 0 ≤ lt (gB s j) : Prop)) (fun i : (Nat) => [(3, .a (.d (.s (.int .i64 (i : Nat)))))]) (fun i : (Nat) => []) 0 (⟨by omega, fun j hj => by omega⟩) ⟨rfl, trivial⟩ trivial trivial ?_)
  rintro i σ hP hN; dsimp only [setL, putL] at hP ⊢
  obtain ⟨hi, hP⟩ := hP
  by_cases hil : i < s.length
  · repeat' first | ((with_reducible apply WR.ist); exact rfl; exact rfl; exact rfl; exact (by omega)) | ((with_reducible apply WR.c_s (f := 110) (fn := Code.f110)); exact rfl; exact rfl; exact rfl; (exact rfl); (focus ((repeat' first | exact args_nil | apply args_d | exact toD_d rfl | exact all_nil | apply all_cons | exact rfl); done)); exact l02Letter_gives _) | ((with_reducible apply WR.mv); exact rfl; exact rfl) | ((with_reducible apply WR.nil)) | (with_reducible refine andThen_n ?_) | (with_reducible refine andThen_r ?_) | (with_reducible refine inB_n ?_) | (with_reducible refine inB_r ?_) | (with_reducible refine W.seq ?_) | (with_reducible refine W.region ?_) | (with_reducible refine W.skip ?_) | (with_reducible refine W.ret ?_) | (with_reducible refine W.block ?_) | ((with_reducible apply W.condT); exact rfl) | ((with_reducible apply W.condF); exact rfl) | ((with_reducible apply Done.f); (intro hh hh2; exact (nomatch hh2)); (focus ((repeat' first | exact all_nil | apply all_cons | exact res_tmp rfl | exact rfl); done)); (focus ((repeat' first | exact all_nil | apply all_cons | exact retOf_s rfl | exact rfl); done)); exact rfl; (focus ((repeat' first | exact outs_nil | apply outs_d | exact rfl); done))) | (intro hb; try (exfalso; omega)) | ((with_reducible apply WR.lss); exact rfl; exact rfl; exact rfl) | ((with_reducible apply WR.le); exact rfl; exact rfl) | ((with_reducible apply WR.ad); exact rfl; exact rfl; exact rfl; (first | exact i64_in _ (by omega)))
    all_goals first
      | (rw [wayC_bad (by assumption) hil (by assumption)]; rfl)
      | ((refine W.nxt (i + 1) (by first | omega | (dsimp only; omega)) ?_ ⟨rfl, trivial⟩ trivial ⟨rfl, trivial⟩ trivial trivial); (try dsimp only)
         refine ⟨by omega, fun j hj => ?_⟩
         by_cases hj2 : j = i
         · subst hj2; exact Int.not_lt.1 (by assumption)
         · exact hP j (by omega))
  · repeat' first | ((with_reducible apply WR.mv); exact rfl; exact rfl) | ((with_reducible apply WR.nil)) | (with_reducible refine andThen_n ?_) | (with_reducible refine andThen_x ?_) | (with_reducible refine inB_x ?_) | (with_reducible refine W.seq ?_) | (with_reducible refine W.region ?_) | (with_reducible refine W.ret ?_) | (with_reducible refine W.exit ?_) | ((with_reducible apply W.condF); exact rfl) | ((with_reducible apply Done.f); (intro hh hh2; exact (nomatch hh2)); (focus ((repeat' first | exact all_nil | apply all_cons | exact res_tmp rfl); done)); (focus ((repeat' first | exact all_nil | apply all_cons | exact retOf_s rfl); done)); exact rfl; (focus ((repeat' first | exact outs_nil | apply outs_d); done))) | (intro hb; try (exfalso; omega)) | ((with_reducible apply WR.lss); exact rfl; exact rfl; exact rfl) | ((with_reducible apply WR.le); exact rfl; exact rfl)
    all_goals (rw [wayC_ok (by assumption) hil hP]; rfl)
theorem wayCode_gives (s : List UInt8) : Gives G 111 [.d (.s (.str s))] (ri .i64 (wayC s)) := by
  refine Gives.by rfl rfl (W.seq ?_)
  repeat' first | ((with_reducible apply WR.mv); exact rfl; exact rfl) | ((with_reducible apply WR.nil)) | (with_reducible refine andThen_n ?_) | (with_reducible refine andThen_r ?_) | (with_reducible refine W.seq ?_) | (with_reducible refine W.region ?_) | (with_reducible refine W.skip ?_) | (with_reducible refine W.ret ?_) | (with_reducible refine W.block ?_) | ((with_reducible apply W.condT); exact rfl) | ((with_reducible apply W.condF); exact rfl) | ((with_reducible apply Done.f); (intro hh hh2; exact (nomatch hh2)); (focus ((repeat' first | exact all_nil | apply all_cons | exact res_tmp rfl); done)); (focus ((repeat' first | exact all_nil | apply all_cons | exact retOf_s rfl); done)); exact rfl; (focus ((repeat' first | exact outs_nil | apply outs_d); done))) | (intro hb; try (exfalso; omega)) | ((with_reducible apply WR.le); exact rfl; exact rfl) | ((with_reducible apply WR.gtr); exact rfl; exact rfl; exact rfl)
  · unfold wayC; rw [if_pos (by assumption)]; rfl
  (refine (?_ : W _ (Code.loop _) _ _))
  (refine W.loopM [0, 8] [] [] (fun i : (Nat) => (s.length - i : Nat)) (fun i : (Nat) => (i ≤ s.length ∧ ∀ j, j < i → 0 ≤ lt (gB s j) : Prop)) (fun i : (Nat) => [(9, .a (.d (.s (.int .i64 (i : Nat)))))]) (fun i : (Nat) => []) 0 (⟨by omega, fun j hj => by omega⟩) ⟨rfl, trivial⟩ trivial trivial ?_)
  rintro i σ hP hN; dsimp only [setL, putL] at hP ⊢
  obtain ⟨hi, hP⟩ := hP
  by_cases hil : i < s.length
  · repeat' first | ((with_reducible apply WR.ist); exact rfl; exact rfl; exact rfl; exact (by omega)) | ((with_reducible apply WR.c_s (f := 116) (fn := Code.f116)); exact rfl; exact rfl; exact rfl; (exact rfl); (focus ((repeat' first | exact args_nil | apply args_d | exact toD_d rfl | exact all_nil | apply all_cons | exact rfl); done)); exact indexByte_gives _ _) | ((with_reducible apply WR.mv); exact rfl; exact rfl) | ((with_reducible apply WR.nil)) | (with_reducible refine andThen_n ?_) | (with_reducible refine andThen_r ?_) | (with_reducible refine inB_n ?_) | (with_reducible refine inB_r ?_) | (with_reducible refine W.seq ?_) | (with_reducible refine W.region ?_) | (with_reducible refine W.skip ?_) | (with_reducible refine W.ret ?_) | (with_reducible refine W.block ?_) | ((with_reducible apply W.condT); exact rfl) | ((with_reducible apply W.condF); exact rfl) | ((with_reducible apply Done.f); (intro hh hh2; exact (nomatch hh2)); (focus ((repeat' first | exact all_nil | apply all_cons | exact res_tmp rfl | exact rfl); done)); (focus ((repeat' first | exact all_nil | apply all_cons | exact retOf_s rfl | exact rfl); done)); exact rfl; (focus ((repeat' first | exact outs_nil | apply outs_d | exact rfl); done))) | (intro hb; try (exfalso; omega)) | ((with_reducible apply WR.lss); exact rfl; exact rfl; exact rfl) | ((with_reducible apply WR.ad); exact rfl; exact rfl; exact rfl; (first | exact i64_in _ (by omega)))
    all_goals first
      | (rw [wayC_bad (by assumption) hil (by assumption)]; rfl)
      | ((refine W.nxt (i + 1) (by first | omega | (dsimp only; omega)) ?_ ⟨rfl, trivial⟩ trivial ⟨rfl, rfl, trivial⟩ trivial trivial); (try dsimp only)
         refine ⟨by omega, fun j hj => ?_⟩
         by_cases hj2 : j = i
         · subst hj2; exact Int.not_lt.1 (by assumption)
         · exact hP j (by omega))
  · repeat' first | ((with_reducible apply WR.mv); exact rfl; exact rfl) | ((with_reducible apply WR.nil)) | (with_reducible refine andThen_n ?_) | (with_reducible refine andThen_x ?_) | (with_reducible refine inB_x ?_) | (with_reducible refine W.seq ?_) | (with_reducible refine W.region ?_) | (with_reducible refine W.ret ?_) | (with_reducible refine W.exit ?_) | ((with_reducible apply W.condF); exact rfl) | ((with_reducible apply Done.f); (intro hh hh2; exact (nomatch hh2)); (focus ((repeat' first | exact all_nil | apply all_cons | exact res_tmp rfl); done)); (focus ((repeat' first | exact all_nil | apply all_cons | exact retOf_s rfl); done)); exact rfl; (focus ((repeat' first | exact outs_nil | apply outs_d); done))) | (intro hb; try (exfalso; omega)) | ((with_reducible apply WR.lss); exact rfl; exact rfl; exact rfl)
    all_goals (rw [wayC_ok (by assumption) hil hP]; rfl)
theorem l02Free_gives (l : IsLawn w h g cs) (hs : w ≤ 10 ∧ h ≤ 10) (x y : Int) (hx : -128 ≤ x ∧ x ≤ 127 ∧ -128 ≤ y ∧ y ≤ 127) : Gives G 108 [ar cs, ac x y] (rb (decide (Opn w h g x y))) := by
  refine Gives.by rfl rfl (W.seq ?_)
  repeat' first | ((with_reducible apply WR.c_p (f := 50) (fn := Code.f50)); exact rfl; exact rfl; exact rfl; (exact rfl); (focus ((repeat' first | exact args_nil | apply args_d | exact toD_d rfl | exact all_nil | apply all_cons | exact rfl); done)); exact l01Is_gives (by assumption) _ _ (by omega)) | ((with_reducible apply WR.c_p (f := 72) (fn := Code.f72)); exact rfl; exact rfl; exact rfl; (exact rfl); (focus ((repeat' first | exact args_nil | apply args_d | exact toD_d rfl | exact all_nil | apply all_cons | exact rfl); done)); exact l01Open_gives (by assumption) _ _ (by omega)) | ((with_reducible apply WR.c_p (f := 50) (fn := Code.f50)); exact rfl; exact rfl; exact rfl; (exact rfl); (focus ((repeat' first | exact args_nil | apply args_d | exact toD_d rfl | exact all_nil | apply all_cons | exact rfl); done)); exact l01Is_gives (by assumption) _ _ (by omega)) | ((with_reducible apply WR.c_p (f := 72) (fn := Code.f72)); exact rfl; exact rfl; exact rfl; (exact rfl); (focus ((repeat' first | exact args_nil | apply args_d | exact toD_d rfl | exact all_nil | apply all_cons | exact rfl); done)); exact l01Open_gives (by assumption) _ _ (by omega)) | ((with_reducible apply WR.mv); exact rfl; exact rfl) | ((with_reducible apply WR.nil)) | (with_reducible refine andThen_n ?_) | (with_reducible refine W.seq ?_) | (with_reducible refine W.region ?_) | (with_reducible refine W.ret ?_) | ((with_reducible apply Done.f); (intro hh hh2; exact (nomatch hh2)); (focus ((repeat' first | exact all_nil | apply all_cons | exact res_tmp rfl | exact rfl); done)); (focus ((repeat' first | exact all_nil | apply all_cons | exact retOf_s rfl | exact rfl); done)); exact rfl; (focus ((repeat' first | exact outs_nil | apply outs_d | exact rfl); done))) | (intro hb; try (exfalso; omega)) | ((with_reducible apply WR.ld); exact rfl; exact rfl; exact rfl; (first | exact ld2)) | ((with_reducible apply WR.off); exact rfl) | ((with_reducible apply WR.bx); exact rfl; exact rfl; exact (by first | exact rfl); (exact rfl)) | ((with_reducible apply WR.pk); exact rfl; exact rfl)
  all_goals first
    | exact rb_t ⟨by assumption, by assumption⟩
    | exact rb_f (fun hh => by first | exact absurd hh.1 (by assumption) | exact absurd hh.2 (by assumption))
def nx (c : Cel) (k : Int) : Cel := gC (Near c.1 c.2) k.toNat
theorem l02Next_gives (c : Cel) (k : Int) (hk : 0 ≤ k ∧ k ≤ 3) (hx : -127 ≤ c.1 ∧ c.1 ≤ 126 ∧ -127 ≤ c.2 ∧ c.2 ≤ 126) : Gives G 109 [ac c.1 c.2, ai .i64 k] ⟨[.agg [.int .i8 (nx c k).1, .int .i8 (nx c k).2]], []⟩ := by
  obtain rfl | rfl | rfl | rfl : k = 0 ∨ k = 1 ∨ k = 2 ∨ k = 3 := by omega
  all_goals
    refine Gives.by rfl rfl (W.seq ?_)
    repeat' first | ((with_reducible apply WR.lx); exact rfl; exact rfl) | ((with_reducible apply WR.fa); exact rfl; exact rfl) | ((with_reducible apply WR.mv); exact rfl; exact rfl) | ((with_reducible apply WR.bC); exact rfl; exact rfl; exact rfl) | ((with_reducible apply WR.st); exact rfl; exact rfl; exact rfl; exact st2) | ((with_reducible apply WR.eql); exact rfl; exact rfl; exact rfl) | ((with_reducible apply WR.nil)) | (with_reducible refine andThen_n ?_) | (with_reducible refine andThen_r ?_) | (with_reducible refine inB_n ?_) | (with_reducible refine inB_r ?_) | (with_reducible refine W.seq ?_) | (with_reducible refine W.region ?_) | (with_reducible refine W.skip ?_) | (with_reducible refine W.ret ?_) | (with_reducible refine W.block ?_) | ((with_reducible apply W.condT); exact rfl) | ((with_reducible apply W.condF); exact rfl) | ((with_reducible apply Done.f); (intro hh hh2; exact (nomatch hh2)); (focus ((repeat' first | exact all_nil | apply all_cons | exact res_cell rfl rfl (by first | exact rfl) | exact rfl); done)); (focus ((repeat' first | exact all_nil | apply all_cons | exact retOf_a rfl | exact rfl); done)); exact rfl; (focus ((repeat' first | exact outs_nil | apply outs_d | exact rfl); done))) | (intro hb; try (exfalso; omega)) | ((with_reducible apply WR.ad); exact rfl; exact rfl; exact rfl; (first | exact i8_in _ (by omega))) | ((with_reducible apply WR.sb); exact rfl; exact rfl; exact rfl; (first | exact i8_in _ (by omega))) | ((with_reducible apply WR.bx); exact rfl; exact rfl; exact (by first | exact rfl); (exact rfl)) | ((with_reducible apply WR.al); exact rfl; (exact rfl))
  all_goals rfl
theorem go1_gives (s : List UInt8) (j : Nat) (c : Cel) (hk : 0 ≤ lt (gB s j)) (hx : -127 ≤ c.1 ∧ c.1 ≤ 126 ∧ -127 ≤ c.2 ∧ c.2 ≤ 126) : Gives G 117 [ac c.1 c.2, ai .u8 (gB s j)] ⟨[.agg [.int .i8 (nx c (lt (gB s j))).1, .int .i8 (nx c (lt (gB s j))).2]], []⟩ := by
  have hb := lt_b (gB s j)
  have hi := indexByte_gives s j
  have hn := beside_gives c.1 c.2 (by omega)
  have hl : (Near c.1 c.2).length = 4 := rfl
  unfold nx
  generalize lt (gB s j) = k at hk hb hi
  generalize Near c.1 c.2 = L at hn hl
  rw [← hl] at hn
  refine Gives.by rfl rfl (W.seq ?_)
  repeat' first | ((with_reducible apply WR.c_o (f := 89) (fn := Code.f89)); exact rfl; exact rfl; exact rfl; (exact rfl); (focus ((repeat' first | exact args_nil | apply args_d | exact toD_d rfl | exact all_nil | apply all_cons | exact rfl); done)); exact hn; (exact rfl)) | ((with_reducible apply WR.c_s (f := 116) (fn := Code.f116)); exact rfl; exact rfl; exact rfl; (exact rfl); (focus ((repeat' first | exact args_nil | apply args_d | exact toD_d rfl | exact all_nil | apply all_cons | exact rfl); done)); exact hi) | ((with_reducible apply WR.nil)) | (with_reducible refine andThen_n ?_) | (with_reducible refine W.seq ?_) | (with_reducible refine W.region ?_) | (with_reducible refine W.ret ?_) | ((with_reducible apply Done.f); (intro hh hh2; exact (nomatch hh2)); (focus ((repeat' first | exact all_nil | apply all_cons | exact res_cell rfl rfl (by first | exact rfl) | exact rfl); done)); (focus ((repeat' first | exact all_nil | apply all_cons | exact retOf_a rfl | exact rfl); done)); exact rfl; (focus ((repeat' first | exact outs_nil | apply outs_d | exact rfl); done))) | ((with_reducible apply WR.ld); exact rfl; exact rfl; exact rfl; (first | exact ld2 | exact ldC (by first | omega))) | ((with_reducible apply WR.mv); exact rfl; exact rfl) | ((with_reducible apply WR.bx); exact rfl; exact rfl; exact (by first | exact rfl); (exact rfl)) | ((with_reducible apply WR.is); exact rfl; exact rfl; exact rfl; omega) | ((with_reducible apply WR.al); exact rfl; (exact rfl)) | ((with_reducible apply WR.st); exact rfl; exact rfl; exact rfl; exact st2)
  all_goals rfl
end Go.DM
