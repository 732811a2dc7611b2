/- NightOf: the program's side. -/
import Derived.Test.YtaocbbdkiemhaaaK356Beside
import Derived.Test.YtaocbbdkiemhaaaK356Loop
import Derived.Test.YtaocbbdkiemhaaaK356NightS
set_option linter.unusedSimpArgs false
set_option linter.unusedVariables false
namespace Go.DM
set_option linter.unusedSectionVars false
variable [Tok]
open Go.IntWalk
variable {w h : Int} {g : Nat → Int} {cs : List S} {q : Nat → Int} {qs : List S}

section
variable {Γ : Nat → Option Fn} {dsts : Nat → Option Nat} {ops : List Oper} {Q : St → Prop} {σ : St} {d : Option Nat} {gd : Option (Nat × Bool)} {l1 l2 l3 l4 : List Nat}
theorem WH.s2 {es p off n l h : Nat} {a : Opd} {lo hi : Option Opd} (hw : wanted dsts (kill l1 (only l3 σ)).env gd = some true) (ha : ev (kill l1 (only l3 σ)).env a = .a (.sl p off n es)) (hl : bound (lo.map (ev (kill l1 (only l3 σ)).env)) 0 = some l) (hh : bound (hi.map (ev (kill l1 (only l3 σ)).env)) n = some h) (hb : l ≤ h ∧ h ≤ n)
    (hv : killV l1 (.a (.sl p (off + l * es) (h - l) es)) = .a (.sl p (off + l * es) (h - l) es)) (K : WH Γ dsts ops Q (set d (.a (.sl p (off + l * es) (h - l) es)) σ)) : WH Γ dsts (⟨d, .slc (.sl es) a lo hi, gd, l1, l2, l3, l4⟩ :: ops) Q σ :=
  WH.q hw (by simp only [veil, quiet, ha, slc, hl, hh, Option.bind_some]; rw [if_pos ⟨hb.1, hb.2, trivial⟩]) hv K
end
/-- A slice behind its first cell, and a cell, handed to a call. -/
theorem args_tail {σ : St} {p n : Nat} {l : List Cel} {x : D} (hn : n + 1 = l.length) (h : σ.objs p = some (.flat false (encC l))) : args σ [] [] [.a (.sl p (0 + 1 * 2) n 2), .a (.d x)] = some [asl (l.drop 1), .d x] := by
  have hl := encC_length l
  have e : ((encC l).drop (0 + 1 * 2)).take (n * 2) = encC (l.drop 1) := by
    rw [show 0 + 1 * 2 = 1 * 2 from rfl, encC_dr, List.take_of_length_le]
    rw [encC_length, List.length_drop]; omega
  have h1 : toDV (fun o => if ([] : List Nat).contains o then none else σ.objs o) depth (.a (.sl p (0 + 1 * 2) n 2)) = some (.sl (l.drop 1).length 2 (encC (l.drop 1))) := by
    show toDA _ _ _ = _
    simp only [toDA, List.contains_nil, Bool.false_eq_true, if_false, h]
    rw [if_pos (by omega), e, show n = (l.drop 1).length by rw [List.length_drop]; omega]
  simp only [args]
  rw [h1]
  rfl

theorem belowCode_congr {a b c a' b' c' : Prop} {d1 : Decidable a} {d2 : Decidable b} {d3 : Decidable c} {e1 : Decidable a'} {e2 : Decidable b'} {e3 : Decidable c'} (h1 : a ↔ a') (h2 : b ↔ b') (h3 : c ↔ c') : belowCode a b c = belowCode a' b' c' := by
  unfold belowCode
  by_cases k1 : a <;> by_cases k2 : b <;> by_cases k3 : c <;> simp [k1, k2, k3, ← h1, ← h2, ← h3]
def nightRes (code i : Int) : Res := if code = 0 then (if i < 0 then ⟨[.s (.int .i64 0), .s (.int .i64 6)], []⟩ else ⟨[.s (.int .i64 (i + 1)), .s (.int .i64 0)], []⟩) else ⟨[.s (.int .i64 0), .s (.int .i64 code)], []⟩
def nightCode (w h : Int) (g q : Nat → Int) (a b : Cel) : Int := belowCode (LevOk w h g q) (Has w h a.1 a.2 ∧ Has w h b.1 b.2) (Is w h g 0 a.1 a.2 ∧ Is w h g 0 b.1 b.2)
def nightIdx (w h : Int) (g q : Nat → Int) (qs : List S) (a b : Cel) : Int := idxOf (fun c => b.1 = c.1 ∧ b.2 = c.2) (((Mole.mk q qs a a).path w h g 60).drop 1) 0

theorem nightOf_gives (l : IsLawn w h g cs) (v : IsLev q qs) (a b : Cel) : Gives G 12 [aa cs, aa qs, ac a.1 a.2, ac b.1 b.2] (nightRes (nightCode w h g q a b) (nightIdx w h g q qs a b)) := by
  have hcode : belowCode (LevOk w h g q) ((∀ c ∈ [a, b], Has w h c.1 c.2) ∧ 0 ≤ (0 : Int) ∧ (0 : Int) ≤ 60) (∀ c ∈ [a, b], Is w h g 0 c.1 c.2) = nightCode w h g q a b :=
    belowCode_congr Iff.rfl (by simp) (by simp)
  have hmc := moleCode_gives (n := 0) l v [a, b] (by simp)
  rw [hcode] at hmc
  refine Gives.by rfl rfl (W.seq ?_)
  repeat' first | ((with_reducible apply WR.cs); exact rfl; exact rfl; exact rfl; exact rfl; exact hmc; exact rfl) | ((with_reducible apply WR.mv); exact rfl; exact rfl) | ((with_reducible apply WR.ld); exact rfl; exact rfl; exact rfl; (first | exact loadC_all (IsLawn.len (by assumption)) | exact loadC_all (IsLev.len (by assumption)))) | ((with_reducible apply WR.lx); exact rfl; exact rfl) | ((with_reducible apply WR.bx); exact rfl; exact rfl; exact IsLawn.len (by assumption); (first | exact rfl)) | ((with_reducible apply WR.bx); exact rfl; exact rfl; exact IsLev.len (by assumption); (first | exact rfl)) | ((with_reducible apply WR.bo); exact rfl; exact rfl; (first | exact rfl)) | ((with_reducible apply WR.nil)) | (with_reducible refine andThen_n ?_) | (with_reducible refine andThen_r ?_) | (with_reducible refine W.seq ?_) | (with_reducible refine W.region ?_) | (with_reducible refine W.skip ?_) | (with_reducible refine W.ret ?_) | ((with_reducible apply W.condT); exact rfl) | ((with_reducible apply W.condF); exact rfl) | ((with_reducible apply Done.r); exact rfl) | (intro hb; try (exfalso; omega)) | ((with_reducible apply WR.neq); exact rfl; exact rfl; exact rfl) | ((with_reducible apply WR.bs); exact rfl; exact rfl; (first | exact rfl))
  · have hne : ¬ nightCode w h g q a b = 0 := by assumption
    unfold nightRes
    rw [if_neg hne]; rfl
  · have h0 : nightCode w h g q a b = 0 := by omega
    obtain ⟨k1, k2, k3⟩ := belowCode_zero.1 h0
    have hs : w ≤ 10 ∧ h ≤ 10 := ⟨k1.1.1.2, k1.1.2.1.2⟩
    have ha : 0 ≤ a.1 ∧ a.1 < 10 ∧ 0 ≤ a.2 ∧ a.2 < 10 := by simp only [Has] at k2; omega
    (with_reducible apply WR.call); exact rfl; exact rfl; exact rfl; exact rfl; exact rfl; exact rfl; exact nights_gives l hs v a ha 60 (by omega); exact rfl; exact rfl; exact rfl; exact rfl
    have k0 : (Mole.mk q qs a a).Ok := ⟨v, ha⟩
    have kv := (k0.after (g := g) hs 60).v
    have hpl := (Mole.mk q qs a a).path_length (w := w) (h := h) (g := g) 60
    have hi : nightIdx w h g q qs a b = idxOf (fun c => b.1 = c.1 ∧ b.2 = c.2) (((Mole.mk q qs a a).path w h g 60).drop 1) 0 := rfl
    have hix := idxOf_spec (fun c => b.1 = c.1 ∧ b.2 = c.2) (((Mole.mk q qs a a).path w h g 60).drop 1) 0 (by omega)
    have hixb : -1 ≤ nightIdx w h g q qs a b ∧ nightIdx w h g q qs a b ≤ 60 := by
      rw [hi]
      rcases hix with ⟨e, _⟩ | ⟨k, c, e, hc, _⟩
      · rw [e]; omega
      · have := (List.getElem?_eq_some_iff.1 hc).1
        rw [List.length_drop, hpl] at this
        rw [e]; omega
    clear hix
    generalize (Mole.mk q qs a a).path w h g 60 = pth at hpl hi ⊢
    generalize ((Mole.mk q qs a a).after w h g 60) = mm at kv ⊢
    repeat' first | ((with_reducible apply WR.mvt); exact rfl; exact rfl) | ((with_reducible apply WR.ex); exact rfl; exact rfl) | ((with_reducible apply WR.al); exact rfl; (first | exact rfl))
    (with_reducible apply WR.st); exact rfl; exact rfl; exact rfl; exact storeAll kv.len rfl
    repeat' first | ((with_reducible apply WR.mv); exact rfl; exact rfl) | ((with_reducible apply WR.nil)) | (with_reducible refine andThen_n ?_) | (with_reducible refine W.seq ?_) | (with_reducible refine W.draw ?_) | ((with_reducible apply WH.mv); exact rfl; exact rfl; exact rfl)
    (with_reducible apply WH.s2); exact rfl; exact rfl; exact rfl; exact rfl; exact ⟨by rw [hpl]; decide, Nat.le_refl _⟩; exact rfl
    repeat' first | ((with_reducible apply WH.lx); exact rfl; exact rfl; exact rfl)
    (with_reducible apply WH.cs); exact rfl; exact rfl; exact rfl; exact args_tail (by rw [hpl]; rfl) rfl; exact index_gives (pth.drop 1) (by rw [List.length_drop, hpl]; decide) _ _; exact rfl
    rw [← hi]
    generalize nightIdx w h g q qs a b = ix at hixb ⊢
    repeat' first | ((with_reducible apply WR.mv); exact rfl; exact rfl) | ((with_reducible apply WR.nil)) | (with_reducible refine andThen_n ?_) | (with_reducible refine andThen_r ?_) | (with_reducible refine W.seq ?_) | (with_reducible refine W.region ?_) | (with_reducible refine W.skip ?_) | (with_reducible refine W.ret ?_) | ((with_reducible apply W.condT); exact rfl) | ((with_reducible apply W.condF); exact rfl) | ((with_reducible apply Done.r); exact rfl) | ((with_reducible apply WH.nil)) | (intro hb; try (exfalso; omega)) | ((with_reducible apply WH.mv); exact rfl; exact rfl; exact rfl) | ((with_reducible apply WR.lss); exact rfl; exact rfl; exact rfl) | ((with_reducible apply WR.ad); exact rfl; exact rfl; exact rfl; (first | exact i64_in _ (by omega)))
    · have hneg : ix < 0 := by assumption
      unfold nightRes
      rw [if_pos h0, if_pos hneg]; rfl
    · have hneg : ¬ ix < 0 := by assumption
      unfold nightRes
      rw [if_pos h0, if_neg hneg]; rfl
end Go.DM

/- Some nights, the night of a trap: the reference's side. -/
set_option linter.unusedSimpArgs false
set_option linter.unusedVariables false
set_option maxHeartbeats 4000000
namespace Go.DM
set_option linter.unusedSectionVars false
variable [Tok]
open Go.IntWalk
variable {w h : Int} {g : Nat → Int} {cs : List S} {q : Nat → Int} {qs : List S}

def molesCode (w h : Int) (g q : Nat → Int) (a : Cel) (n : Int) : Int := belowCode (LevOk w h g q) ((0 ≤ n ∧ n ≤ 60) ∧ Has w h a.1 a.2) (Is w h g 0 a.1 a.2)
def molesRes (w h : Int) (g q : Nat → Int) (qs : List S) (a : Cel) (n : Int) : Res :=
  if molesCode w h g q a n = 0 then ⟨[.agg ((Mole.mk q qs a a).after w h g n.toNat).qs, .own ((Mole.mk q qs a a).path w h g n.toNat).length 2 (encC ((Mole.mk q qs a a).path w h g n.toNat)), .s (.int .i64 0)], []⟩
  else ⟨[.agg (List.replicate 100 (.int .i8 0)), .own 0 2 [], .s (.int .i64 (molesCode w h g q a n))], []⟩

theorem moleNightsS_gives (l : IsLawn w h g cs) (v : IsLev q qs) (a : Cel) (n : Int) (hx : -128 ≤ a.1 ∧ a.1 ≤ 127 ∧ -128 ≤ a.2 ∧ a.2 ≤ 127) : Gives G 22 [aa cs, aa qs, ac a.1 a.2, ai .i64 n] (molesRes w h g q qs a n) := by
  refine Gives.by rfl rfl (W.seq ?_)
  repeat' first | ((with_reducible apply WH.c_s (f := 21) (fn := Code.f21)); exact rfl; exact rfl; exact rfl; (first | exact rfl); (focus ((repeat' first | exact args_nil | apply args_d | exact toD_d rfl | exact toD_ptr rfl rfl | exact toD_slC rfl rfl (by first | exact rfl) | exact all_nil | apply all_cons | exact rfl); done)); exact l06Below1_gives (by assumption) (by assumption) _ _ _ (by omega); exact rfl) | ((with_reducible apply WH.c_p (f := 52) (fn := Code.f52)); exact rfl; exact rfl; exact rfl; (first | exact rfl); (focus ((repeat' first | exact args_nil | apply args_d | exact toD_d rfl | exact toD_ptr rfl rfl | exact toD_slC rfl rfl (by first | exact rfl) | exact all_nil | apply all_cons | exact rfl); done)); exact l06Nights_gives _) | ((with_reducible apply WR.mv); exact rfl; exact rfl) | ((with_reducible apply WR.ld); exact rfl; exact rfl; exact rfl; (first | exact ld2)) | ((with_reducible apply WR.bx); exact rfl; exact rfl; exact (by first | exact List.length_replicate .. | exact encC_length _ | exact IsLev.len (by assumption) | exact IsLawn.len (by assumption) | exact rfl); (first | exact rfl)) | ((with_reducible apply WR.bs0); exact rfl; (first | exact rfl)) | ((with_reducible apply WR.bs1); exact rfl; exact rfl; (first | exact rfl)) | ((with_reducible apply WR.nil)) | (with_reducible refine andThen_n ?_) | (with_reducible refine andThen_r ?_) | (with_reducible refine W.seq ?_) | (with_reducible refine W.region ?_) | (with_reducible refine W.skip ?_) | (with_reducible refine W.ret ?_) | (with_reducible refine W.block ?_) | ((with_reducible apply W.condT); exact rfl) | ((with_reducible apply W.condF); exact rfl) | ((with_reducible apply Done.f); (intro hh hh2; exact (nomatch hh2)); (focus ((repeat' first | exact all_nil | apply all_cons | exact res_tmp rfl | exact res_cell rfl rfl (by first | exact List.length_replicate .. | exact encC_length _ | exact IsLev.len (by assumption) | exact IsLawn.len (by assumption) | exact rfl) | exact rfl); done)); (focus ((repeat' first | exact all_nil | apply all_cons | exact retOf_s rfl | exact retOf_a rfl | exact retOf_o rfl rfl (by first | exact List.length_replicate .. | exact encC_length _ | exact IsLev.len (by assumption) | exact IsLawn.len (by assumption) | exact rfl) | exact rfl); done)); exact rfl; (focus ((repeat' first | exact outs_nil | apply outs_d | exact rfl); done))) | ((with_reducible apply WH.nil)) | (with_reducible refine W.draw ?_) | (intro hb; try (exfalso; omega)) | ((with_reducible apply WR.bM); exact rfl; exact rfl; exact rfl) | ((with_reducible apply WR.bu); exact rfl; exact rfl) | ((with_reducible apply WR.st); exact rfl; exact rfl; exact rfl; exact storeAll (by first | exact List.length_replicate .. | exact encC_length _ | exact IsLev.len (by assumption) | exact IsLawn.len (by assumption) | exact rfl) (by first | exact List.length_replicate .. | exact encC_length _ | exact IsLev.len (by assumption) | exact IsLawn.len (by assumption) | exact rfl)) | ((with_reducible apply WH.mv); exact rfl; exact rfl; exact rfl) | ((with_reducible apply WR.neq); exact rfl; exact rfl; exact rfl) | ((with_reducible apply WR.al); exact rfl; (first | exact rfl)) | ((with_reducible apply WH.ld); exact rfl; exact rfl; exact rfl; (first | exact ld2); exact rfl) | ((with_reducible apply WH.bs1); exact rfl; exact rfl; (first | exact rfl); exact rfl; exact rfl)
  · rename_i hn
    have e : belowCode (LevOk w h g q) (true = true ∧ Has w h (a.fst, a.snd).fst (a.fst, a.snd).snd) (Is w h g 0 (a.fst, a.snd).fst (a.fst, a.snd).snd) = molesCode w h g q a n := belowCode_congr Iff.rfl (by simp; omega) Iff.rfl
    rw [e] at hb ⊢
    unfold molesRes; rw [if_neg hb]; rfl
  · rename_i hn
    obtain ⟨hL, ⟨_, hH⟩, hI⟩ := belowCode_zero.1 hb
    have hs : w ≤ 10 ∧ h ≤ 10 := ⟨hL.1.1.2, hL.1.2.1.2⟩
    have hc0 : molesCode w h g q a n = 0 := belowCode_zero.2 ⟨hL, ⟨hn, hH⟩, hI⟩
    have ha : 0 ≤ a.1 ∧ a.1 < 10 ∧ 0 ≤ a.2 ∧ a.2 < 10 := by simp only at hH; omega
    have k0 : (Mole.mk q qs a a).Ok := ⟨v, ha⟩
    unfold molesRes; rw [if_pos hc0]
    clear hb hc0 hL hI
    obtain ⟨N, rfl⟩ : ∃ N : Nat, n = N := ⟨n.toNat, by omega⟩
    have hl0 : ((Mole.mk q qs a a).path w h g 0).length = 1 := rfl
    (refine (?_ : W _ (Code.loop _) _ _))
    (refine W.loopM [3, 4, 5, 8, 12] [4, 8] [43, 44] (fun k : (Nat) => (N - k : Nat)) (fun k : (Nat) => (k ≤ N : Prop)) (fun k : (Nat) => [(13, .a (.sl 30 0 ((Mole.mk q qs a a).path w h g k).length 2)), (14, .a (.d (.s (.int .i64 (k : Nat)))))]) (fun k : (Nat) => [(30, .flat false (encC ((Mole.mk q qs a a).path w h g k))), (28, .flat false (moleS ((Mole.mk q qs a a).after w h g k).a ((Mole.mk q qs a a).after w h g k).b)), (5, .flat false (((Mole.mk q qs a a).after w h g k).qs))]) 0 (by (try dsimp only); first | omega | exact trivial | exact ⟨by omega, rfl⟩ | exact ⟨by omega, by omega, rfl⟩ | (refine ⟨by omega, ?_⟩; simp; done) | (simp; done)) ⟨rfl, rfl, trivial⟩ ⟨rfl, rfl, rfl, trivial⟩ ⟨(by (repeat' first | exact rfl | assumption | (with_reducible apply noPar_set) | ((with_reducible apply noPar_puto); exact rfl) | (with_reducible apply noPar_put) | (with_reducible apply noPar_putv) | (with_reducible apply noPar_kill) | ((with_reducible apply noPar_mix); exact rfl) | ((with_reducible apply noPar_mixT); exact rfl)); done), (by (repeat' first | exact rfl | assumption | (with_reducible apply noPar_set) | ((with_reducible apply noPar_puto); exact rfl) | (with_reducible apply noPar_put) | (with_reducible apply noPar_putv) | (with_reducible apply noPar_kill) | ((with_reducible apply noPar_mix); exact rfl) | ((with_reducible apply noPar_mixT); exact rfl)); done), trivial⟩ ?_)
    rintro k σ hP hN; dsimp only [setL, putL] at hP ⊢; obtain ⟨n43, hN⟩ := hN; obtain ⟨n44, hN⟩ := hN
    have kk := k0.after (g := g) hs k
    have vk := kk.v
    have vk1 := (k0.after (g := g) hs (k + 1)).v
    have hpl := (Mole.mk q qs a a).path_length (w := w) (h := h) (g := g) k
    have hga := kk.a
    repeat' first | ((with_reducible apply WR.c_m (f := 53) (fn := Code.f53)); exact rfl; exact rfl; exact rfl; (focus ((repeat' first | exact args_nil | apply args_f | (apply args_p; exact rfl; exact rfl) | exact toD_ptr rfl rfl | exact all_nil | apply all_cons | exact rfl); done)); exact nightS_gives (by assumption) (by assumption) (by assumption) _ _ (by assumption); (focus ((repeat' first | exact backs_nil | (refine backs_f.trans ?_) | (apply backs_p; exact rfl; exact rfl; exact (by first | exact List.length_replicate .. | exact encC_length _ | exact IsLev.len (by assumption) | assumption | exact nightLev_length | exact rfl)) | exact rfl); done)); dsimp only [insertAll]) | ((with_reducible apply WR.mv); exact rfl; exact rfl) | ((with_reducible apply WR.ld); exact rfl; exact rfl; exact rfl; (first | exact ld2 | exact loadC_all (IsLev.len (by assumption)))) | ((with_reducible apply WR.bs1); exact rfl; exact rfl; (first | exact rfl | assumption)) | ((with_reducible apply WR.nil)) | (with_reducible refine andThen_n ?_) | (with_reducible refine andThen_x ?_) | (with_reducible refine inB_n ?_) | (with_reducible refine inB_x ?_) | (with_reducible refine W.seq ?_) | (with_reducible refine W.region ?_) | (with_reducible refine W.skip ?_) | (with_reducible refine W.ret ?_) | (with_reducible refine W.exit ?_) | (with_reducible refine W.block ?_) | ((with_reducible apply W.condT); exact rfl) | ((with_reducible apply W.condF); exact rfl) | ((with_reducible apply Done.f); (intro hh hh2; exact (nomatch hh2)); (focus ((repeat' first | exact all_nil | apply all_cons | exact res_tmp rfl | exact res_cell rfl rfl (by first | exact List.length_replicate .. | exact encC_length _ | exact IsLev.len (by assumption) | assumption | exact nightLev_length | exact rfl) | exact rfl); done)); (focus ((repeat' first | exact all_nil | apply all_cons | exact retOf_s rfl | exact retOf_a rfl | exact retOf_o rfl rfl (by first | exact List.length_replicate .. | exact encC_length _ | exact IsLev.len (by assumption) | assumption | exact nightLev_length | exact rfl) | exact rfl); done)); exact rfl; (focus ((repeat' first | exact outs_nil | apply outs_d | exact rfl); done))) | (intro hb; try (exfalso; omega)) | ((with_reducible apply WR.st); exact rfl; exact rfl; exact rfl; exact storeAll (by first | exact List.length_replicate .. | exact encC_length _ | exact IsLev.len (by assumption) | assumption | exact nightLev_length | exact rfl) (by first | exact List.length_replicate .. | exact encC_length _ | exact IsLev.len (by assumption) | assumption | exact nightLev_length | exact rfl)) | ((with_reducible apply WR.lss); exact rfl; exact rfl; exact rfl) | ((with_reducible apply WR.ad); exact rfl; exact rfl; exact rfl; (first | exact i64_in _ (by omega) | assumption)) | ((with_reducible apply WR.fa); exact rfl; exact rfl) | ((with_reducible apply WR.nc); exact rfl; exact rfl) | ((with_reducible apply WR.apC); exact rfl; exact rfl; exact rfl; exact rfl; omega)
    · (refine W.nxt (k + 1) (by first | omega | (dsimp only; omega)) ?_ ⟨rfl, rfl, trivial⟩ ⟨rfl, rfl, rfl, trivial⟩ ⟨rfl, rfl, rfl, rfl, rfl, trivial⟩ ⟨rfl, rfl, trivial⟩ ⟨(by (repeat' first | exact rfl | assumption | (with_reducible apply noPar_set) | ((with_reducible apply noPar_puto); exact rfl) | (with_reducible apply noPar_put) | (with_reducible apply noPar_putv) | (with_reducible apply noPar_kill) | ((with_reducible apply noPar_mix); exact rfl) | ((with_reducible apply noPar_mixT); exact rfl)); done), (by (repeat' first | exact rfl | assumption | (with_reducible apply noPar_set) | ((with_reducible apply noPar_puto); exact rfl) | (with_reducible apply noPar_put) | (with_reducible apply noPar_putv) | (with_reducible apply noPar_kill) | ((with_reducible apply noPar_mix); exact rfl) | ((with_reducible apply noPar_mixT); exact rfl)); done), trivial⟩); (try dsimp only)
      omega
    · obtain rfl : k = N := by omega
      rfl
  · rename_i hn
    have e : belowCode (LevOk w h g q) (false = true ∧ Has w h (a.fst, a.snd).fst (a.fst, a.snd).snd) (Is w h g 0 (a.fst, a.snd).fst (a.fst, a.snd).snd) = molesCode w h g q a n := belowCode_congr Iff.rfl (by simp; omega) Iff.rfl
    rw [e] at hb ⊢
    unfold molesRes; rw [if_neg hb]; rfl
  · exact absurd ((belowCode_zero.1 hb).2.1.1) (by decide)
end Go.DM
