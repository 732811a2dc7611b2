/- The night of a trap: the reference's side; the statement of NightOf. -/
import Derived.Test.YtaocbbdkiemhaaaK356Loop
import Derived.Test.YtaocbbdkiemhaaaK356NightsS
import Derived.Test.YtaocbbdkiemhaaaK356Most
set_option linter.unusedSimpArgs false
set_option linter.unusedVariables false
set_option maxHeartbeats 4000000
namespace Go.DM
set_option linter.unusedSectionVars false
variable [Tok]
open Go.IntWalk
variable {w h : Int} {g : Nat → Int} {cs : List S} {q : Nat → Int} {qs : List S}

theorem nightOfS_gives (l : IsLawn w h g cs) (v : IsLev q qs) (a b : Cel) (hx : -128 ≤ a.1 ∧ a.1 ≤ 127 ∧ -128 ≤ a.2 ∧ a.2 ≤ 127) (hy : -128 ≤ b.1 ∧ b.1 ≤ 127 ∧ -128 ≤ b.2 ∧ b.2 ≤ 127) :
    Gives G 8 [aa cs, aa qs, ac a.1 a.2, ac b.1 b.2] (nightRes (nightCode w h g q a b) (nightIdx w h g q qs a b)) := by
  have hm := moleNightsS_gives l v a 60 hx
  have hpl := (Mole.mk q qs a a).path_length (w := w) (h := h) (g := g) 60
  have hml : molesCode w h g q a 60 = 0 → ((Mole.mk q qs a a).after w h g 60).qs.length = 100 := fun hc => by
    obtain ⟨hL, ⟨_, hH⟩, hI⟩ := belowCode_zero.1 hc
    exact ((show (Mole.mk q qs a a).Ok from ⟨v, by have := hL.1; simp only [LawnOk] at this ⊢; omega⟩).after ⟨hL.1.1.2, hL.1.2.1.2⟩ 60).v.len
  unfold nightIdx
  unfold molesRes at hm
  rw [show (60 : Int).toNat = 60 from rfl] at hm
  generalize (Mole.mk q qs a a).path w h g 60 = pth at hm hpl ⊢
  generalize ((Mole.mk q qs a a).after w h g 60).qs = qs' at hm hml
  refine Gives.by rfl rfl (W.seq ?_)
  have hcode : belowCode (LevOk w h g q) (Has w h (a.1, a.2).1 (a.1, a.2).2 ∧ Has w h (b.1, b.2).1 (b.1, b.2).2) (Is w h g 0 (a.1, a.2).1 (a.1, a.2).2 ∧ Is w h g 0 (b.1, b.2).1 (b.1, b.2).2) = nightCode w h g q a b := rfl
  by_cases h0 : nightCode w h g q a b = 0
  · have hc0 : molesCode w h g q a 60 = 0 := by
      obtain ⟨h1, ⟨h2, h3⟩, h4, h5⟩ := belowCode_zero.1 h0
      exact belowCode_zero.2 ⟨h1, ⟨by omega, h2⟩, h4⟩
    rw [if_pos hc0] at hm
    have hml := hml hc0
    repeat' first | ((with_reducible apply WR.c_aos (f := 22) (fn := Code.f22)); exact rfl; exact rfl; exact rfl; (first | exact rfl); (focus ((repeat' first | exact args_nil | apply args_d | exact toD_d rfl | exact toD_ptr rfl rfl | exact toD_slC rfl rfl (by first | exact rfl) | exact rfl); done)); exact hm; (first | exact rfl | assumption)) | ((with_reducible apply WR.c_s (f := 21) (fn := Code.f21)); exact rfl; exact rfl; exact rfl; (first | exact rfl); (focus ((repeat' first | exact args_nil | apply args_d | exact toD_d rfl | exact toD_ptr rfl rfl | exact toD_slC rfl rfl (by first | exact rfl) | exact rfl); done)); exact l06Below2_gives (by assumption) (by assumption) _ _ _ _ (by omega) (by omega)) | ((with_reducible apply WR.mv); exact rfl; exact rfl) | ((with_reducible apply WR.mvt); exact rfl; exact rfl) | ((with_reducible apply WR.ld); exact rfl; exact rfl; exact rfl; (first | exact ld2 | exact loadC_all (IsLawn.len (by assumption)) | exact loadC_all (IsLev.len (by assumption)))) | ((with_reducible apply WR.bx); exact rfl; exact rfl; exact (by first | exact List.length_replicate .. | exact IsLev.len (by assumption) | exact IsLawn.len (by assumption) | assumption | exact rfl); (first | exact rfl | assumption)) | ((with_reducible apply WR.ex); exact rfl; exact rfl) | ((with_reducible apply WR.nil)) | (with_reducible refine andThen_n ?_) | (with_reducible refine W.seq ?_) | (with_reducible refine W.region ?_) | (with_reducible refine W.skip ?_) | (with_reducible refine W.block ?_) | ((with_reducible apply W.condF); exact rfl) | (intro hb; try (exfalso; omega)) | ((with_reducible apply WR.neq); exact rfl; exact rfl; exact rfl) | ((with_reducible apply WR.bs2); exact rfl; exact rfl; exact rfl; (first | exact rfl | assumption)) | ((with_reducible apply WR.al); exact rfl; (first | exact rfl | assumption)) | ((with_reducible apply WR.st); exact rfl; exact rfl; exact rfl; exact storeAll (by first | exact List.length_replicate .. | exact IsLev.len (by assumption) | exact IsLawn.len (by assumption) | assumption | exact rfl) (by first | exact List.length_replicate .. | exact IsLev.len (by assumption) | exact IsLawn.len (by assumption) | assumption | exact rfl))
    · have hll : pth.length ≤ 61 := by omega
      (refine (?_ : W _ (Code.loop _) _ _))
      (refine W.loopM [7, 12] [7, 2026] [] (fun n : (Nat) => (61 - n : Nat)) (fun n : (Nat) => (1 ≤ n ∧ n ≤ 61 ∧ idxOf (fun c => b.1 = c.1 ∧ b.2 = c.2) (pth.drop 1) 0 = idxOf (fun c => b.1 = c.1 ∧ b.2 = c.2) (pth.drop n) (n - 1) : Prop)) (fun n : (Nat) => [(14, .a (.d (.s (.int .i64 (n : Nat)))))]) (fun n : (Nat) => []) 1 (⟨by omega, by omega, rfl⟩) ⟨rfl, trivial⟩ trivial trivial ?_)
      rintro n σ hP hN; dsimp only [setL, putL] at hP ⊢
      obtain ⟨h1, h2, hI⟩ := hP
      repeat' first | ((with_reducible apply WR.mv); exact rfl; exact rfl) | ((with_reducible apply WR.nil)) | (with_reducible refine andThen_n ?_) | (with_reducible refine andThen_x ?_) | (with_reducible refine andThen_r ?_) | (with_reducible refine inB_n ?_) | (with_reducible refine inB_r ?_) | (with_reducible refine inB_x ?_) | (with_reducible refine W.seq ?_) | (with_reducible refine W.region ?_) | (with_reducible refine W.skip ?_) | (with_reducible refine W.ret ?_) | (with_reducible refine W.exit ?_) | (with_reducible refine W.block ?_) | ((with_reducible apply W.condT); exact rfl) | ((with_reducible apply W.condF); exact rfl) | ((with_reducible apply Done.f); (intro hh hh2; exact (nomatch hh2)); (focus ((repeat' first | exact all_nil | apply all_cons | exact res_tmp rfl); done)); (focus ((repeat' first | exact all_nil | apply all_cons | exact retOf_s rfl); done)); exact rfl; (focus ((repeat' first | exact outs_nil | apply outs_d); done))) | ((with_reducible apply WH.nil)) | (with_reducible refine W.draw ?_) | (intro hb; try (exfalso; omega)) | ((with_reducible apply WH.mv); exact rfl; exact rfl; exact rfl) | ((with_reducible apply WH.ld); exact rfl; exact rfl; exact rfl; (first | exact ld2 | exact ldC (by first | omega)); exact rfl) | ((with_reducible apply WR.lss); exact rfl; exact rfl; exact rfl) | ((with_reducible apply WR.ad); exact rfl; exact rfl; exact rfl; (first | exact i64_in _ (by omega))) | ((with_reducible apply WR.le); exact rfl; exact rfl) | ((with_reducible apply WH.ec); exact rfl; exact rfl; exact rfl) | ((with_reducible apply WH.isn); exact rfl; exact rfl; exact rfl; omega; exact rfl)
      all_goals
        try
          have hst := idxOf_step (l := pth.drop 1) (fun c => b.1 = c.1 ∧ b.2 = c.2) (i := (n : Int) - 1) (by omega) (c := gC pth n) (by rw [List.getElem?_drop, show 1 + ((n : Int) - 1).toNat = n by omega]; exact gC_get (by omega))
          rw [List.drop_drop, List.drop_drop, show 1 + ((n : Int) - 1).toNat = n by omega, show 1 + ((n : Int) - 1 + 1).toNat = n + 1 by omega, ← hI] at hst
      · rw [if_pos ⟨by omega, by omega⟩] at hst
        unfold nightRes; rw [if_pos h0, hst, if_neg (by omega), show (n : Int) - 1 + 1 = n by omega]; rfl
      · rw [if_neg (by omega), show (n : Int) - 1 + 1 = ((n + 1 : Nat) : Int) - 1 by omega] at hst
        (refine W.nxt (n + 1) (by first | omega | (dsimp only; omega)) ?_ ⟨rfl, trivial⟩ trivial ⟨rfl, rfl, trivial⟩ ⟨rfl, rfl, trivial⟩ trivial); (try dsimp only)
        exact ⟨by omega, by omega, hst⟩
      · rw [show pth.drop n = [] from List.drop_eq_nil_of_le (by omega)] at hI
        unfold nightRes; rw [if_pos h0, hI, show idxOf (fun c : Cel => b.1 = c.1 ∧ b.2 = c.2) [] ((n : Int) - 1) = -1 from rfl]; rfl
  · repeat' first | ((with_reducible apply WR.c_s (f := 21) (fn := Code.f21)); exact rfl; exact rfl; exact rfl; (first | exact rfl); (focus ((repeat' first | exact args_nil | apply args_d | exact toD_d rfl | exact toD_ptr rfl rfl | exact toD_slC rfl rfl (by first | exact rfl) | exact all_nil | apply all_cons | exact rfl); done)); exact l06Below2_gives (by assumption) (by assumption) _ _ _ _ (by omega) (by omega)) | ((with_reducible apply WR.mv); exact rfl; exact rfl) | ((with_reducible apply WR.ld); exact rfl; exact rfl; exact rfl; (first | exact ld2)) | ((with_reducible apply WR.bx); exact rfl; exact rfl; exact (by first | exact IsLev.len (by assumption) | exact IsLawn.len (by assumption) | exact rfl); (first | exact rfl)) | ((with_reducible apply WR.nil)) | (with_reducible refine andThen_n ?_) | (with_reducible refine andThen_r ?_) | (with_reducible refine W.seq ?_) | (with_reducible refine W.region ?_) | (with_reducible refine W.ret ?_) | ((with_reducible apply W.condT); exact rfl) | ((with_reducible apply Done.f); (intro hh hh2; exact (nomatch hh2)); (focus ((repeat' first | exact all_nil | apply all_cons | exact res_tmp rfl | exact rfl); done)); (focus ((repeat' first | exact all_nil | apply all_cons | exact retOf_s rfl | exact rfl); done)); exact rfl; (focus ((repeat' first | exact outs_nil | apply outs_d | exact rfl); done))) | (intro hb; try (exfalso; omega)) | ((with_reducible apply WR.neq); exact rfl; exact rfl; exact rfl) | ((with_reducible apply WR.bs2); exact rfl; exact rfl; exact rfl; (first | exact rfl))
    · unfold nightRes; rw [if_neg h0]; rfl

theorem nightRes_two (c i : Int) : ∃ x y, nightRes c i = ⟨[.s (.int .i64 x), .s (.int .i64 y)], []⟩ := by
  unfold nightRes
  split
  · split
    · exact ⟨_, _, rfl⟩
    · exact ⟨_, _, rfl⟩
  · exact ⟨_, _, rfl⟩
end Go.DM
