/- Rounds: what is drawn; lists held against each other. -/
import Derived.Test.YtimkdadlmolnaaaGreatDoorK402WeedH
import Derived.Test.YtimkdadlmolnaaaGreatDoorK402Src
import Derived.Test.YtimkdadlmolnaaaGreatDoorK402ReadRounds3
set_option linter.unusedSectionVars false
set_option linter.unusedSimpArgs false
set_option linter.unusedVariables false
set_option maxHeartbeats 4000000
namespace Go.DM
variable [Tok]
open Go.IntWalk
variable {w h : Int} {g : Nat → Int} {cs : List S}
section
variable {Γ : Nat → Option Fn} {dsts : Nat → Option Nat} {ops : List Oper} {Q : St → Prop} {σ : St} {d : Option Nat} {gd : Option (Nat × Bool)} {l1 l2 l3 l4 : List Nat}
theorem eqSs_same : ∀ {ks : List SK} {cs : List S}, hasKs ks cs = true → eqSs cs cs = true
  | [], [], _ => rfl
  | k :: ks, x :: xs, h => by
    simp only [hasKs, Bool.and_eq_true] at h
    simp only [eqSs, Bool.and_eq_true]
    refine ⟨?_, eqSs_same h.2⟩
    cases x <;> cases k <;> simp [hasK] at h <;> simp [eqS]
  | [], _ :: _, h => by simp [hasKs] at h
  | _ :: _, [], h => by simp [hasKs] at h
theorem WR.ees {a b : Opd} {ks : List SK} {c : List S} (hw : wanted dsts σ.env gd = some true) (ha : ev σ.env a = .a (.d (.agg c))) (hb : ev σ.env b = .a (.d (.agg c))) (hk : hasKs ks c = true)
    (K : WR Γ dsts ops Q (set d (.a (.d (.s (.bool false)))) σ)) : WR Γ dsts (⟨d, .eqa true true ks a b, gd, l1, l2, l3, l4⟩ :: ops) Q σ :=
  WR.q hw (by simp [quiet, ha, hb, cellsA, hk, eqSs_same hk, sv]) K
theorem WH.ees {a b : Opd} {ks : List SK} {c : List S} (hw : wanted dsts (kill l1 (only l3 σ)).env gd = some true) (ha : ev (kill l1 (only l3 σ)).env a = .a (.d (.agg c))) (hb : ev (kill l1 (only l3 σ)).env b = .a (.d (.agg c))) (hk : hasKs ks c = true)
    (K : WH Γ dsts ops Q (set d (.a (.d (.s (.bool false)))) σ)) : WH Γ dsts (⟨d, .eqa true true ks a b, gd, l1, l2, l3, l4⟩ :: ops) Q σ :=
  WH.q hw (by simp [veil, quiet, ha, hb, cellsA, hk, eqSs_same hk, sv]) rfl K
theorem WR.it1 {i : Nat} {a j : Opd} {k : IntKind} {n : Nat} (hw : wanted dsts σ.env gd = some true) (ha : ev σ.env a = .a (.d (.s (.tok i)))) (hi : ev σ.env j = .a (.d (.s (.int k (n : Nat))))) (hb : n < (Tok.dat i).length)
    (K : WR Γ dsts ops Q (set d (.a (.dptr (u8s (Tok.dat i)) n)) σ)) : WR Γ dsts (⟨d, .idxs 1 a j, gd, l1, l2, l3, l4⟩ :: ops) Q σ :=
  WR.q hw (by simp only [quiet, ha, hi, idxs, asI, Option.bind_some]; rw [if_neg (by omega), if_pos ⟨by omega, trivial⟩]; rfl) K
theorem WR.bRd {a : Opd} {x : Int} (hw : wanted dsts σ.env gd = some true) (ha : ev σ.env a = .a (.d (.s (.int .i8 x)))) (k : WR Γ dsts ops Q (set d (.a (.d (.agg [.int .i8 x, .bool false]))) σ)) : WR Γ dsts (⟨d, .build [.int .i8 0, .bool false] [(0, 1, a)], gd, l1, l2, l3, l4⟩ :: ops) Q σ :=
  WR.q hw (by simp [quiet, all?, ha, cellsOf, fill, av]) k
end
theorem a2LongB_gives (i j : Nat) (hi : (Tok.dat i).length ≤ 9223372036854775807) (hj : (Tok.dat j).length ≤ 9223372036854775807) : Gives G 381 [.d (.s (.tok i)), .d (.s (.tok j))] (rb (decide (3000 < (Tok.dat i).length ∨ 3000 < (Tok.dat j).length))) := by
  refine Gives.by rfl rfl (W.seq ?_)
  repeat' first | ((with_reducible apply WR.mv); exact rfl; exact rfl) | ((with_reducible apply WR.nil)) | (with_reducible refine andThen_n ?_) | (with_reducible refine W.seq ?_) | (with_reducible refine W.region ?_) | (with_reducible refine W.ret ?_) | ((with_reducible apply Done.f); (intro hh hh2; exact (nomatch hh2)); (focus ((repeat' first | exact all_nil | apply all_cons | exact res_tmp rfl); done)); (focus ((repeat' first | exact all_nil | apply all_cons | exact retOf_s rfl); done)); exact rfl; (focus ((repeat' first | exact outs_nil | apply outs_d); done))) | (intro hb; try (exfalso; omega)) | ((with_reducible apply WR.gtr); exact rfl; exact rfl; exact rfl) | ((with_reducible apply WR.le); exact rfl; exact rfl) | ((with_reducible apply WR.off); exact rfl) | ((with_reducible apply WR.pk); exact rfl; exact rfl)
  all_goals first
    | exact rb_t (by omega)
    | exact rb_f (by omega)
def atV (i k : Nat) (n : Int) : Int := if k < (Tok.dat i).length then (gT (Tok.dat i) k).tmod n else 0
theorem atV_b (i k : Nat) {n : Int} (hn : 1 ≤ n) : 0 ≤ atV i k n ∧ atV i k n < n := by
  unfold atV
  split
  · exact tmod_bound (gT_bound _ _).1 (by omega)
  · omega
theorem a2At_gives (i k : Nat) (n : Int) (hn : 1 ≤ n ∧ n ≤ 1000) (hk : k ≤ 1000) (hl : (Tok.dat i).length ≤ 1000000000) : Gives G 406 [.d (.s (.tok i)), ai .i64 (k : Nat), ai .i64 n] (ri .i64 (atV i k n)) := by
  have hg := gT_bound (Tok.dat i) k
  refine Gives.by rfl rfl (W.seq ?_)
  by_cases h : k < (Tok.dat i).length
  · have e : atV i k n = (gT (Tok.dat i) k).tmod n := if_pos h
    rw [e]
    repeat' first | ((with_reducible apply WR.it1); exact rfl; exact rfl; exact rfl; exact h) | ((with_reducible apply WR.ldd); exact rfl; exact rfl; exact ldT h) | ((with_reducible apply WR.rmi); exact rfl; exact rfl; exact rfl; omega) | ((with_reducible apply WR.mv); exact rfl; exact rfl) | ((with_reducible apply WR.nil)) | (with_reducible refine andThen_n ?_) | (with_reducible refine W.seq ?_) | (with_reducible refine W.region ?_) | (with_reducible refine W.skip ?_) | (with_reducible refine W.ret ?_) | ((with_reducible apply W.condF); exact rfl) | ((with_reducible apply Done.f); (intro hh hh2; exact (nomatch hh2)); (focus ((repeat' first | exact all_nil | apply all_cons | exact res_tmp rfl); done)); (focus ((repeat' first | exact all_nil | apply all_cons | exact retOf_s rfl); done)); exact rfl; (focus ((repeat' first | exact outs_nil | apply outs_d); done))) | (intro hb; try (exfalso; omega)) | ((with_reducible apply WR.lss); exact rfl; exact rfl; exact rfl) | ((with_reducible apply WR.geq); exact rfl; exact rfl; exact rfl) | ((with_reducible apply WR.cv); exact rfl; exact rfl; (first | exact i64_in _ (by omega))) | ((with_reducible apply WR.pk); exact rfl; exact rfl) | ((with_reducible apply WR.le); exact rfl; exact rfl)
    all_goals first
      | rfl
      | (exfalso; omega)
  · have e : atV i k n = 0 := if_neg h
    rw [e]
    repeat' first | ((with_reducible apply WR.mv); exact rfl; exact rfl) | ((with_reducible apply WR.nil)) | (with_reducible refine andThen_n ?_) | (with_reducible refine andThen_r ?_) | (with_reducible refine W.seq ?_) | (with_reducible refine W.region ?_) | (with_reducible refine W.ret ?_) | ((with_reducible apply W.condT); exact rfl) | ((with_reducible apply Done.f); (intro hh hh2; exact (nomatch hh2)); (focus ((repeat' first | exact all_nil | apply all_cons | exact res_tmp rfl); done)); (focus ((repeat' first | exact all_nil | apply all_cons | exact retOf_s rfl); done)); exact rfl; (focus ((repeat' first | exact outs_nil | apply outs_d); done))) | (intro hb; try (exfalso; omega)) | ((with_reducible apply WR.off); exact rfl) | ((with_reducible apply WR.geq); exact rfl; exact rfl; exact rfl) | ((with_reducible apply WR.pk); exact rfl; exact rfl) | ((with_reducible apply WR.le); exact rfl; exact rfl)
    all_goals first
      | rfl
      | (exfalso; omega)
theorem a2Lawn_gives (i : Nat) (hl : (Tok.dat i).length ≤ 1000000000) :
    ∃ (w h : Int) (q : Nat → Int), (1 ≤ w ∧ w ≤ 6) ∧ (1 ≤ h ∧ h ≤ 6) ∧ kindsOk w h q ∧ Gives G 403 [.d (.s (.tok i))] ⟨[.agg (lwn w h q)], []⟩ := by
  obtain ⟨w, h, q, n', seed', h1, h2, h3, h4, h5, h6, hg⟩ := drawn_gives i 0 0 (by omega) hl
  refine ⟨w, h, q, ⟨h1, h2⟩, ⟨h3, h4⟩, h5, ?_⟩
  have lq := lwn_is ⟨h1, h2⟩ ⟨h3, h4⟩ h5
  have ho := from_gives i
  refine Gives.by rfl rfl (W.seq ?_)
  repeat' first | ((with_reducible apply WR.c_n (f := 375) (fn := Code.f375)); exact rfl; exact rfl; exact rfl; (exact rfl); (focus ((repeat' first | exact args_nil | apply args_d | (apply args_p; exact rfl; exact rfl) | exact toD_d rfl | exact all_nil | apply all_cons | exact rfl); done)); exact ho; (exact rfl)) | ((with_reducible apply WR.c_wa (f := 374) (fn := Code.f374)); exact rfl; exact rfl; exact rfl; (focus ((repeat' first | exact args_nil | apply args_d | (apply args_p; exact rfl; exact rfl) | exact toD_d rfl | exact all_nil | apply all_cons | exact rfl); done)); exact hg; (focus ((repeat' first | exact backs_nil | (apply backs_p; exact rfl; exact rfl; exact (by first | exact IsLawn.len (by assumption) | exact rfl)) | exact rfl); done)); dsimp only [insertAll]) | ((with_reducible apply WR.nil)) | (with_reducible refine andThen_n ?_) | (with_reducible refine W.seq ?_) | (with_reducible refine W.region ?_) | (with_reducible refine W.ret ?_) | ((with_reducible apply Done.f); (intro hh hh2; exact (nomatch hh2)); (focus ((repeat' first | exact all_nil | apply all_cons | exact res_cell rfl rfl (by first | exact IsLawn.len (by assumption) | exact rfl) | exact rfl); done)); (focus ((repeat' first | exact all_nil | apply all_cons | exact retOf_a rfl | exact rfl); done)); exact rfl; (focus ((repeat' first | exact outs_nil | apply outs_d | exact rfl); done))) | ((with_reducible apply WR.mv); exact rfl; exact rfl) | ((with_reducible apply WR.al); exact rfl; (exact rfl)) | ((with_reducible apply WR.st); exact rfl; exact rfl; exact rfl; exact storeAll (by first | exact IsLawn.len (by assumption) | exact rfl) (by first | exact IsLawn.len (by assumption) | exact rfl))
  rfl
theorem zero_good : WGood w h g (fun _ => 0) := ⟨fun k _ => ⟨Int.le_refl _, by show (0 : Int) < 65536; decide⟩, fun y hy x hx hb => by
  simp only [bitQ, Int.zero_ediv] at hb
  exact absurd hb (by decide)⟩
theorem l07Drawn_gives (l : IsLawn w h g cs) (hok : LawnOk w h g) (i : Nat) (hl : (Tok.dat i).length ≤ 1000000000) :
    ∃ r : Res, (∃ (q : Nat → Int) (n' : Nat) (seed' : Int), WGood w h g q ∧ r = ⟨[.agg (wR q)], [srcC i n' seed']⟩) ∧ Gives G 420 [.mp (srcC i 0 0), ar cs] r := by
  have hs1 := hok.1
  have hs2 := hok.2.1
  obtain ⟨r1, n1, s1, a1, _, b1, c1, g1⟩ := pick_gives i 0 0 6 (by omega) hl (by omega)
  have hb1 := b1 (by omega)
  have hal := l01All_gives l (by omega)
  have hAl := allC_len (w := w) (h := h) ⟨by omega, by omega⟩
  have hmem := fun c => allC_mem (w := w) (h := h) (c := c)
  generalize allC w h = A at hal hAl hmem
  refine GivesP.by rfl rfl (W.seq ?_)
  repeat' first | ((with_reducible apply WR.c_ws (f := 377) (fn := Code.f377)); exact rfl; exact rfl; exact rfl; (focus ((repeat' first | exact args_nil | apply args_d | (apply args_p; exact rfl; exact rfl) | exact toD_d rfl | exact rfl); done)); exact g1; (focus ((repeat' first | exact backs_no | (apply backs_p; exact rfl; exact rfl; exact (by first | exact List.length_replicate .. | exact rfl)) | exact rfl); done)); dsimp only [insertAll]) | ((with_reducible apply WR.c_o (f := 60) (fn := Code.f60)); exact rfl; exact rfl; exact rfl; (first | exact rfl | exact backs_no); (focus ((repeat' first | exact args_nil | apply args_d | (apply args_p; exact rfl; exact rfl) | exact toD_d rfl | exact rfl); done)); exact hal; (exact rfl)) | ((with_reducible apply WR.mv); exact rfl; exact rfl) | ((with_reducible apply WR.nil)) | (with_reducible refine andThen_n ?_) | (with_reducible refine W.seq ?_) | (with_reducible refine W.region ?_) | (with_reducible refine W.block ?_) | ((with_reducible apply WR.ad); exact rfl; exact rfl; exact rfl; (first | exact i64_in _ (by omega))) | ((with_reducible apply WR.al); exact rfl; (exact rfl)) | ((with_reducible apply WR.st); exact rfl; exact rfl; exact rfl; exact storeAll (by first | exact List.length_replicate .. | exact rfl) (by first | exact List.length_replicate .. | exact rfl)) | ((with_reducible apply WR.bu); exact rfl; exact rfl)
  (refine (?_ : W _ (Code.loop _) _ _))
  (refine W.loopM [0, 1, 4, 5, 6, 7] [4, 14] [] (fun zz : (Nat) × (Nat) × (Int) × (Nat → Int) => match zz with | (k, n, sd, q) => (A.length - k : Nat)) (fun zz : (Nat) × (Nat) × (Int) × (Nat → Int) => match zz with | (k, n, sd, q) => (k ≤ A.length ∧ n ≤ n1 + k ∧ WGood w h g q : Prop)) (fun zz : (Nat) × (Nat) × (Int) × (Nat → Int) => match zz with | (k, n, sd, q) => [(8, .a (.d (.s (.int .i64 (k : Nat)))))]) (fun zz : (Nat) × (Nat) × (Int) × (Nat → Int) => match zz with | (k, n, sd, q) => [(0, .flat true (srcC i n sd)), (5, .flat false (wR q))]) (0, n1, s1, fun _ => 0) (⟨by omega, by omega, zero_good⟩) ⟨rfl, trivial⟩ ⟨rfl, rfl, trivial⟩ trivial ?_)
  rintro ⟨k, n, sd, q⟩ σ hP hN; dsimp only [setL, putL] at hP ⊢
  obtain ⟨hk, hn', hq⟩ := hP
  by_cases hka : k < A.length
  · have hH := hmem _ (gC_mem hka)
    simp only [Has] at hH
    have hso := l07Soil_gives l (gC A k).1 (gC A k).2 ⟨by omega, by omega⟩ (by omega)
    obtain ⟨o, n5, s5, c5, g5⟩ := one_gives i n sd (2 + r1) (by omega) hl (by omega)
    by_cases hS : Soil w h g (gC A k).1 (gC A k).2
    · rw [decide_eq_true hS] at hso
      cases o
      · repeat' first | ((with_reducible apply WR.c_s (f := 316) (fn := Code.f316)); exact rfl; exact rfl; exact rfl; (first | exact rfl | exact backs_no); (focus ((repeat' first | exact args_nil | apply args_d | (apply args_p; exact rfl; exact rfl) | exact toD_d rfl | exact rfl); done)); exact hso) | ((with_reducible apply WR.c_ws (f := 378) (fn := Code.f378)); exact rfl; exact rfl; exact rfl; (focus ((repeat' first | exact args_nil | apply args_d | (apply args_p; exact rfl; exact rfl) | exact toD_d rfl | exact rfl); done)); exact g5; (focus ((repeat' first | exact backs_no | (apply backs_p; exact rfl; exact rfl; exact (by first | exact rfl)) | exact rfl); done)); dsimp only [insertAll]) | ((with_reducible apply WR.mv); exact rfl; exact rfl) | ((with_reducible apply WR.nil)) | (with_reducible refine andThen_n ?_) | (with_reducible refine inB_n ?_) | (with_reducible refine W.seq ?_) | (with_reducible refine W.region ?_) | (with_reducible refine W.skip ?_) | (with_reducible refine W.block ?_) | ((with_reducible apply W.condT); exact rfl) | ((with_reducible apply W.condF); exact rfl) | (intro hb; try (exfalso; omega)) | ((with_reducible apply WR.ad); exact rfl; exact rfl; exact rfl; (first | exact i64_in _ (by omega))) | ((with_reducible apply WR.ld); exact rfl; exact rfl; exact rfl; (first | exact ldC (by first | omega))) | ((with_reducible apply WR.lss); exact rfl; exact rfl; exact rfl) | ((with_reducible apply WR.isn); exact rfl; exact rfl; exact rfl; omega) | ((with_reducible apply WR.pk); exact rfl; exact rfl) | ((with_reducible apply WR.le); exact rfl; exact rfl)
        (refine W.nxt (k + 1, n5, s5, q) (by first | omega | (dsimp only; omega)) ?_ ⟨rfl, trivial⟩ ⟨rfl, rfl, trivial⟩ ⟨rfl, rfl, rfl, rfl, rfl, rfl, trivial⟩ ⟨rfl, rfl, trivial⟩ trivial); (try dsimp only)
        exact ⟨by omega, by omega, hq⟩
      · repeat' first | ((with_reducible apply WR.c_s (f := 316) (fn := Code.f316)); exact rfl; exact rfl; exact rfl; (first | exact rfl | exact backs_no); (focus ((repeat' first | exact args_nil | apply args_d | (apply args_p; exact rfl; exact rfl) | exact toD_d rfl | exact rfl); done)); exact hso) | ((with_reducible apply WR.c_ws (f := 378) (fn := Code.f378)); exact rfl; exact rfl; exact rfl; (focus ((repeat' first | exact args_nil | apply args_d | (apply args_p; exact rfl; exact rfl) | exact toD_d rfl | exact rfl); done)); exact g5; (focus ((repeat' first | exact backs_no | (apply backs_p; exact rfl; exact rfl; exact (by first | exact IsLawn.len (by assumption) | exact rfl)) | exact rfl); done)); dsimp only [insertAll]) | ((with_reducible apply WH.orb); exact rfl; exact rfl; exact rfl) | ((with_reducible apply WR.mv); exact rfl; exact rfl) | ((with_reducible apply WH.mv); exact rfl; exact rfl; exact rfl) | ((with_reducible apply WH.ld); exact rfl; exact rfl; exact rfl; (first | exact ldC (by first | omega) | exact ldCx (by first | omega) | exact ldCy (by first | omega) | exact ldR (by omega)); exact rfl) | ((with_reducible apply WR.nil)) | (with_reducible refine andThen_n ?_) | (with_reducible refine inB_n ?_) | (with_reducible refine W.seq ?_) | (with_reducible refine W.region ?_) | (with_reducible refine W.skip ?_) | (with_reducible refine W.block ?_) | ((with_reducible apply W.condT); exact rfl) | ((with_reducible apply WH.isn); exact rfl; exact rfl; exact rfl; omega; exact rfl) | ((with_reducible apply WH.fa); exact rfl; exact rfl; exact rfl) | ((with_reducible apply WH.nil)) | (with_reducible refine W.draw ?_) | (intro hb; try (exfalso; omega)) | ((with_reducible apply WR.ad); exact rfl; exact rfl; exact rfl; (first | exact i64_in _ (by omega) | exact u64_in _ (by omega))) | ((with_reducible apply WR.ld); exact rfl; exact rfl; exact rfl; (first | exact ldC (by first | omega) | exact ldCx (by first | omega) | exact ldCy (by first | omega) | exact ldR (by omega))) | ((with_reducible apply WH.ia); exact rfl; exact rfl; exact rfl; omega; exact rfl) | ((with_reducible apply WR.lss); exact rfl; exact rfl; exact rfl) | ((with_reducible apply WR.isn); exact rfl; exact rfl; exact rfl; omega) | ((with_reducible apply WR.pk); exact rfl; exact rfl) | ((with_reducible apply WR.le); exact rfl; exact rfl) | ((with_reducible apply WH.b1s); exact rfl; exact rfl; exact rfl; omega) | ((with_reducible apply WH.cv); exact rfl; exact rfl; (first | exact i64_in _ (by omega) | exact u64_in _ (by omega))) | ((with_reducible apply WH.st); exact rfl; exact rfl; exact rfl; exact stR (by omega); exact rfl; exact rfl)
        (refine W.nxt (k + 1, n5, s5, gset q (gC A k).2.toNat (orB (q (gC A k).2.toNat) (2 ^ (gC A k).1.toNat))) (by first | omega | (dsimp only; omega)) ?_ ⟨rfl, trivial⟩ ⟨rfl, rfl, trivial⟩ ⟨rfl, rfl, rfl, rfl, rfl, rfl, trivial⟩ ⟨rfl, rfl, trivial⟩ trivial); (try dsimp only)
        refine ⟨by omega, by omega, hq.put (by omega) (by omega) ?_⟩
        rw [show (((gC A k).1.toNat : Nat) : Int) = (gC A k).1 by omega, show (((gC A k).2.toNat : Nat) : Int) = (gC A k).2 by omega]
        exact hS
    · rw [decide_eq_false hS] at hso
      repeat' first | ((with_reducible apply WR.c_s (f := 316) (fn := Code.f316)); exact rfl; exact rfl; exact rfl; (exact rfl); (focus ((repeat' first | exact args_nil | apply args_d | exact toD_d rfl | exact rfl); done)); exact hso) | ((with_reducible apply WR.mv); exact rfl; exact rfl) | ((with_reducible apply WR.nil)) | (with_reducible refine andThen_n ?_) | (with_reducible refine inB_n ?_) | (with_reducible refine W.seq ?_) | (with_reducible refine W.region ?_) | (with_reducible refine W.skip ?_) | (with_reducible refine W.block ?_) | ((with_reducible apply W.condT); exact rfl) | ((with_reducible apply W.condF); exact rfl) | (intro hb; try (exfalso; omega)) | ((with_reducible apply WR.ad); exact rfl; exact rfl; exact rfl; (first | exact i64_in _ (by omega))) | ((with_reducible apply WR.ld); exact rfl; exact rfl; exact rfl; (first | exact ldC (by first | omega))) | ((with_reducible apply WR.off); exact rfl) | ((with_reducible apply WR.lss); exact rfl; exact rfl; exact rfl) | ((with_reducible apply WR.isn); exact rfl; exact rfl; exact rfl; omega) | ((with_reducible apply WR.pk); exact rfl; exact rfl) | ((with_reducible apply WR.le); exact rfl; exact rfl)
      (refine W.nxt (k + 1, n, sd, q) (by first | omega | (dsimp only; omega)) ?_ ⟨rfl, trivial⟩ ⟨rfl, rfl, trivial⟩ ⟨rfl, rfl, rfl, rfl, rfl, rfl, trivial⟩ ⟨rfl, rfl, trivial⟩ trivial); (try dsimp only)
      exact ⟨by omega, by omega, hq⟩
  · repeat' first | ((with_reducible apply WR.mv); exact rfl; exact rfl) | ((with_reducible apply WR.nil)) | (with_reducible refine andThen_n ?_) | (with_reducible refine andThen_x ?_) | (with_reducible refine inB_x ?_) | (with_reducible refine W.seq ?_) | (with_reducible refine W.region ?_) | (with_reducible refine W.ret ?_) | (with_reducible refine W.exit ?_) | ((with_reducible apply W.condF); exact rfl) | (intro hb; try (exfalso; omega)) | ((with_reducible apply WR.ld); exact rfl; exact rfl; exact rfl; (first | exact loadC_all rowI_len)) | ((with_reducible apply WR.st); exact rfl; exact rfl; exact rfl; exact storeAll (by first | exact List.length_replicate .. | exact rowI_len) (by first | exact List.length_replicate .. | exact rowI_len)) | ((with_reducible apply WR.lss); exact rfl; exact rfl; exact rfl) | ((with_reducible apply WR.le); exact rfl; exact rfl)
    apply DoneP.mk
    · repeat' first | ((with_reducible apply Done.f); (intro hh hh2; exact (nomatch hh2)); (focus ((repeat' first | exact all_nil | apply all_cons | exact res_cell rfl rfl (by first | exact rowI_len | exact rfl) | exact rfl); done)); (focus ((repeat' first | exact all_nil | apply all_cons | exact retOf_a rfl | exact rfl); done)); exact rfl; (focus ((repeat' first | exact outs_nil | apply outs_d | (apply outs_mp; exact rfl; exact (by first | exact rowI_len | exact rfl)) | exact rfl); done)))
      rfl
    · exact ⟨q, n, sd, hq, rfl⟩
theorem a2Weeds_gives (l : IsLawn w h g cs) (hok : LawnOk w h g) (i : Nat) (hl : (Tok.dat i).length ≤ 1000000000) :
    ∃ q : Nat → Int, WGood w h g q ∧ Gives G 404 [.d (.s (.tok i)), aa cs] ⟨[.agg (wR q)], []⟩ := by
  obtain ⟨r, ⟨q, n', seed', hq, rfl⟩, hg⟩ := l07Drawn_gives l hok i hl
  refine ⟨q, hq, ?_⟩
  have ho := from_gives i
  refine Gives.by rfl rfl (W.seq ?_)
  repeat' first | ((with_reducible apply WR.c_n (f := 375) (fn := Code.f375)); exact rfl; exact rfl; exact rfl; (first | exact rfl | exact backs_no); (focus ((repeat' first | exact args_nil | apply args_d | (apply args_p; exact rfl; exact rfl) | exact toD_d rfl | exact toD_ptr rfl rfl | exact all_nil | apply all_cons | exact rfl); done)); exact ho; (exact rfl)) | ((with_reducible apply WR.c_wa (f := 420) (fn := Code.f420)); exact rfl; exact rfl; exact rfl; (focus ((repeat' first | exact args_nil | apply args_d | (apply args_p; exact rfl; exact rfl) | exact toD_d rfl | exact toD_ptr rfl rfl | exact all_nil | apply all_cons | exact rfl); done)); exact hg; (focus ((repeat' first | exact backs_no | (apply backs_p; exact rfl; exact rfl; exact (by first | exact List.length_replicate .. | exact IsLawn.len (by assumption) | exact rowI_len | exact rfl)) | exact rfl); done)); dsimp only [insertAll]) | ((with_reducible apply WR.nil)) | (with_reducible refine andThen_n ?_) | (with_reducible refine W.seq ?_) | (with_reducible refine W.region ?_) | (with_reducible refine W.ret ?_) | ((with_reducible apply Done.f); (intro hh hh2; exact (nomatch hh2)); (focus ((repeat' first | exact all_nil | apply all_cons | exact res_cell rfl rfl (by first | exact List.length_replicate .. | exact IsLawn.len (by assumption) | exact rowI_len | exact rfl) | exact rfl); done)); (focus ((repeat' first | exact all_nil | apply all_cons | exact retOf_a rfl | exact rfl); done)); exact rfl; (focus ((repeat' first | exact outs_nil | apply outs_d | exact rfl); done))) | ((with_reducible apply WR.mv); exact rfl; exact rfl) | ((with_reducible apply WR.bx); exact rfl; exact rfl; exact (by first | exact List.length_replicate .. | exact IsLawn.len (by assumption) | exact rowI_len | exact rfl); (exact rfl)) | ((with_reducible apply WR.al); exact rfl; (exact rfl)) | ((with_reducible apply WR.st); exact rfl; exact rfl; exact rfl; exact storeAll (by first | exact List.length_replicate .. | exact IsLawn.len (by assumption) | exact rowI_len | exact rfl) (by first | exact List.length_replicate .. | exact IsLawn.len (by assumption) | exact rowI_len | exact rfl))
  rfl
theorem a2Rounds_gives (l : IsLawn w h g cs) (hok : LawnOk w h g) (hh : h ≤ 6) (i : Nat) (hl : (Tok.dat i).length ≤ 1000000000) :
    ∃ rs : List Rnd, rs.length ≤ 5 ∧ RowsIn h rs ∧ Gives G 405 [.d (.s (.tok i)), aa cs] ⟨[.own rs.length 2 (encO rs)], []⟩ := by
  have hs2 := hok.2.1
  obtain ⟨r1, n1, s1, a1, _, b1, c1, g1⟩ := pick_gives i 0 0 6 (by omega) hl (by omega)
  have hb1 := b1 (by omega)
  have ho := from_gives i
  suffices hss : ∃ r : Res, (∃ rs : List Rnd, (rs.length ≤ 5 ∧ RowsIn h rs) ∧ r = ⟨[.own rs.length 2 (encO rs)], []⟩) ∧ Gives G 405 [.d (.s (.tok i)), aa cs] r by
    obtain ⟨r, ⟨rs, ⟨h1, h2⟩, rfl⟩, h4⟩ := hss
    exact ⟨rs, h1, h2, h4⟩
  refine GivesP.by rfl rfl (W.seq ?_)
  repeat' first | ((with_reducible apply WR.c_n (f := 375) (fn := Code.f375)); exact rfl; exact rfl; exact rfl; (first | exact rfl | exact backs_no); (focus ((repeat' first | exact args_nil | apply args_d | (apply args_p; exact rfl; exact rfl) | exact toD_d rfl | exact rfl); done)); exact ho; (exact rfl)) | ((with_reducible apply WR.c_ws (f := 377) (fn := Code.f377)); exact rfl; exact rfl; exact rfl; (focus ((repeat' first | exact args_nil | apply args_d | (apply args_p; exact rfl; exact rfl) | exact toD_d rfl | exact rfl); done)); exact g1; (focus ((repeat' first | exact backs_no | (apply backs_p; exact rfl; exact rfl; exact (by first | exact IsLawn.len (by assumption) | exact rfl)) | exact rfl); done)); dsimp only [insertAll]) | ((with_reducible apply WR.mv); exact rfl; exact rfl) | ((with_reducible apply WR.nil)) | (with_reducible refine andThen_n ?_) | (with_reducible refine W.seq ?_) | (with_reducible refine W.region ?_) | (with_reducible refine W.block ?_) | ((with_reducible apply WR.bsR0); exact rfl; (exact rfl)) | ((with_reducible apply WR.bx); exact rfl; exact rfl; exact (by first | exact IsLawn.len (by assumption) | exact rfl); (exact rfl))
  (refine (?_ : W _ (Code.loop _) _ _))
  (refine W.loopM [3, 5] [3] [8, 30, 31] (fun zz : (Int) × (Nat) × (Int) × (List Rnd) => match zz with | (m, n, sd, rs) => (m.toNat : Nat)) (fun zz : (Int) × (Nat) × (Int) × (List Rnd) => match zz with | (m, n, sd, rs) => (0 ≤ m ∧ (rs.length : Int) + m ≤ 5 ∧ (n : Int) + 2 * m ≤ 100 ∧ RowsIn h rs : Prop)) (fun zz : (Int) × (Nat) × (Int) × (List Rnd) => match zz with | (m, n, sd, rs) => [(6, .a (.sl 11 0 rs.length 2)), (7, .a (.d (.s (.int .i64 m))))]) (fun zz : (Int) × (Nat) × (Int) × (List Rnd) => match zz with | (m, n, sd, rs) => [(10, .flat false (srcC i n sd)), (11, .flat false (encO rs))]) (r1, n1, s1, []) (⟨by omega, by simp; omega, by omega, fun r hr => by (cases hr)⟩) ⟨rfl, rfl, trivial⟩ ⟨rfl, rfl, trivial⟩ ⟨np, np, np, trivial⟩ ?_)
  rintro ⟨m, n, sd, rs⟩ σ hP hN; dsimp only [setL, putL] at hP ⊢; obtain ⟨n8, hN⟩ := hN; obtain ⟨n30, hN⟩ := hN; obtain ⟨n31, hN⟩ := hN
  obtain ⟨hm, hrl, hnl, hr⟩ := hP
  by_cases hm0 : m = 0
  · subst hm0
    repeat' first | ((with_reducible apply WR.mv); exact rfl; exact rfl) | ((with_reducible apply WR.nil)) | (with_reducible refine andThen_n ?_) | (with_reducible refine andThen_x ?_) | (with_reducible refine inB_x ?_) | (with_reducible refine W.seq ?_) | (with_reducible refine W.region ?_) | (with_reducible refine W.ret ?_) | (with_reducible refine W.exit ?_) | ((with_reducible apply W.condF); exact rfl) | (intro hb; try (exfalso; omega)) | ((with_reducible apply WR.gtr); exact rfl; exact rfl; exact rfl)
    apply DoneP.mk
    · repeat' first | ((with_reducible apply Done.f); (intro hh hh2; exact (nomatch hh2)); (focus ((repeat' first | exact all_nil | apply all_cons | exact res_tmp rfl); done)); (focus ((repeat' first | exact all_nil | apply all_cons | exact retOf_o rfl rfl (by first | exact encO_length _)); done)); exact rfl; (focus ((repeat' first | exact outs_nil | apply outs_d); done)))
      rfl
    · exact ⟨rs, ⟨by omega, hr⟩, rfl⟩
  · obtain ⟨u, n5, s5, u1, _, u3, c5, g5⟩ := pick_gives i n sd h (by omega) hl (by omega)
    have hu := u3 (by omega)
    obtain ⟨o, n6, s6, c6, g6⟩ := one_gives i n5 s5 3 (by omega) hl (by omega)
    repeat' first | ((with_reducible apply WR.c_ws (f := 377) (fn := Code.f377)); exact rfl; exact rfl; exact rfl; (focus ((repeat' first | exact args_nil | apply args_d | (apply args_p; exact rfl; exact rfl) | exact toD_d rfl | exact rfl); done)); exact g5; (focus ((repeat' first | exact backs_no | (apply backs_p; exact rfl; exact rfl; exact (by first | assumption | exact rfl)) | exact rfl); done)); dsimp only [insertAll]) | ((with_reducible apply WR.c_ws (f := 378) (fn := Code.f378)); exact rfl; exact rfl; exact rfl; (focus ((repeat' first | exact args_nil | apply args_d | (apply args_p; exact rfl; exact rfl) | exact toD_d rfl | exact rfl); done)); exact g6; (focus ((repeat' first | exact backs_no | (apply backs_p; exact rfl; exact rfl; exact (by first | assumption | exact rfl)) | exact rfl); done)); dsimp only [insertAll]) | ((with_reducible apply WR.bRd); exact rfl; exact rfl) | ((with_reducible apply WR.mv); exact rfl; exact rfl) | ((with_reducible apply WR.nil)) | (with_reducible refine andThen_n ?_) | (with_reducible refine inB_n ?_) | (with_reducible refine W.seq ?_) | (with_reducible refine W.region ?_) | (with_reducible refine W.skip ?_) | (with_reducible refine W.block ?_) | ((with_reducible apply W.condT); exact rfl) | (intro hb; try (exfalso; omega)) | ((with_reducible apply WR.bsR1); exact rfl; exact rfl; (first | exact rfl | assumption | (focus ((repeat' first | exact rfl | assumption | (with_reducible apply noPar_set) | ((with_reducible apply noPar_puto); exact rfl) | (with_reducible apply noPar_kill)); done)))) | ((with_reducible apply WR.cv); exact rfl; exact rfl; (first | exact i64_in _ (by omega) | assumption | exact i8_in _ (by omega))) | ((with_reducible apply WR.ld); exact rfl; exact rfl; exact rfl; (first | exact ld2 | exact lawn_h (by assumption))) | ((with_reducible apply WR.fa); exact rfl; exact rfl) | ((with_reducible apply WR.st); exact rfl; exact rfl; exact rfl; exact st2) | ((with_reducible apply WR.apR); exact rfl; exact rfl; exact rfl; exact rfl; omega) | ((with_reducible apply WR.gtr); exact rfl; exact rfl; exact rfl) | ((with_reducible apply WR.sb); exact rfl; exact rfl; exact rfl; (first | exact i64_in _ (by omega) | assumption | exact i8_in _ (by omega))) | ((with_reducible apply WR.al); exact rfl; (first | exact rfl | assumption | (focus ((repeat' first | exact rfl | assumption | (with_reducible apply noPar_set) | ((with_reducible apply noPar_puto); exact rfl) | (with_reducible apply noPar_kill)); done))))
    (refine W.nxt (m - 1, n6, s6, rs ++ [(u, o)]) (by first | omega | (dsimp only; omega)) ?_ ⟨rfl, rfl, trivial⟩ ⟨rfl, rfl, trivial⟩ ⟨rfl, rfl, trivial⟩ ⟨rfl, trivial⟩ ⟨np, np, np, trivial⟩); (try dsimp only)
    refine ⟨by omega, by rw [List.length_append, List.length_singleton]; omega, by omega, fun r hm => ?_⟩
    rcases List.mem_append.1 hm with k | k
    · exact hr r k
    · rw [List.mem_singleton.1 k]; exact ⟨u1, hu⟩
theorem a2SameRounds_gives (L : List Rnd) (hl : L.length ≤ 100000) : Gives G 413 [aro L, aro L] (rb true) := by
  refine Gives.by rfl rfl (W.seq ?_)
  repeat' first | ((with_reducible apply WR.mv); exact rfl; exact rfl) | ((with_reducible apply WR.le); exact rfl; exact rfl) | ((with_reducible apply WR.nil)) | (with_reducible refine andThen_n ?_) | (with_reducible refine W.seq ?_) | (with_reducible refine W.region ?_) | (with_reducible refine W.skip ?_) | (with_reducible refine W.block ?_) | ((with_reducible apply W.condF); exact rfl) | (intro hb; try (exfalso; omega)) | ((with_reducible apply WR.neq); exact rfl; exact rfl; exact rfl)
  (refine (?_ : W _ (Code.loop _) _ _))
  (refine W.loopM [0, 1] [] [] (fun i : (Nat) => (L.length - i : Nat)) (fun i : (Nat) => (i ≤ L.length : Prop)) (fun i : (Nat) => [(5, .a (.d (.s (.int .i64 (i : Nat)))))]) (fun i : (Nat) => []) 0 (by (try dsimp only); first | omega | exact trivial | exact ⟨by omega, rfl⟩ | exact ⟨by omega, by omega, rfl⟩ | (refine ⟨by omega, ?_⟩; simp; done) | (simp; done)) ⟨rfl, trivial⟩ trivial trivial ?_)
  rintro i σ hP hN; dsimp only [setL, putL] at hP ⊢
  repeat' first | ((with_reducible apply WH.ees); exact rfl; exact rfl; exact rfl; exact rfl) | ((with_reducible apply WR.mv); exact rfl; exact rfl) | ((with_reducible apply WH.mv); exact rfl; exact rfl; exact rfl) | ((with_reducible apply WR.le); exact rfl; exact rfl) | ((with_reducible apply WR.nil)) | (with_reducible refine andThen_n ?_) | (with_reducible refine andThen_x ?_) | (with_reducible refine inB_n ?_) | (with_reducible refine inB_x ?_) | (with_reducible refine W.seq ?_) | (with_reducible refine W.region ?_) | (with_reducible refine W.skip ?_) | (with_reducible refine W.ret ?_) | (with_reducible refine W.exit ?_) | (with_reducible refine W.block ?_) | ((with_reducible apply W.condT); exact rfl) | ((with_reducible apply W.condF); exact rfl) | ((with_reducible apply Done.f); (intro hh hh2; exact (nomatch hh2)); (focus ((repeat' first | exact all_nil | apply all_cons | exact res_tmp rfl); done)); (focus ((repeat' first | exact all_nil | apply all_cons | exact retOf_s rfl); done)); exact rfl; (focus ((repeat' first | exact outs_nil | apply outs_d); done))) | ((with_reducible apply WH.nil)) | (with_reducible refine W.draw ?_) | (intro hb; try (exfalso; omega)) | ((with_reducible apply WH.idn); exact rfl; exact rfl; exact rfl; omega; (first | exact Nat.le_of_eq (encO_length _).symm); exact rfl) | ((with_reducible apply WH.ldd); exact rfl; exact rfl; (first | exact ldOd (by first | omega)); exact rfl) | ((with_reducible apply WR.lss); exact rfl; exact rfl; exact rfl) | ((with_reducible apply WR.ad); exact rfl; exact rfl; exact rfl; (first | exact i64_in _ (by omega)))
  · (refine W.nxt (i + 1) (by first | omega | (dsimp only; omega)) ?_ ⟨rfl, trivial⟩ trivial ⟨rfl, rfl, trivial⟩ trivial trivial); (try dsimp only)
    omega
  · rfl
abbrev asn (L : List Int) : Arg := .d (.sl L.length 1 (encI .i64 L))
theorem sameInts_gives (L : List Int) (hl : L.length ≤ 100000) : Gives G 400 [asn L, asn L] (rb true) := by
  refine Gives.by rfl rfl (W.seq ?_)
  repeat' first | ((with_reducible apply WR.mv); exact rfl; exact rfl) | ((with_reducible apply WR.le); exact rfl; exact rfl) | ((with_reducible apply WR.nil)) | (with_reducible refine andThen_n ?_) | (with_reducible refine W.seq ?_) | (with_reducible refine W.region ?_) | (with_reducible refine W.skip ?_) | (with_reducible refine W.block ?_) | ((with_reducible apply W.condF); exact rfl) | (intro hb; try (exfalso; omega)) | ((with_reducible apply WR.neq); exact rfl; exact rfl; exact rfl)
  (refine (?_ : W _ (Code.loop _) _ _))
  (refine W.loopM [0, 1] [] [] (fun i : (Nat) => (L.length - i : Nat)) (fun i : (Nat) => (i ≤ L.length : Prop)) (fun i : (Nat) => [(5, .a (.d (.s (.int .i64 (i : Nat)))))]) (fun i : (Nat) => []) 0 (by (try dsimp only); first | omega | exact trivial | exact ⟨by omega, rfl⟩ | exact ⟨by omega, by omega, rfl⟩ | (refine ⟨by omega, ?_⟩; simp; done) | (simp; done)) ⟨rfl, trivial⟩ trivial trivial ?_)
  rintro i σ hP hN; dsimp only [setL, putL] at hP ⊢
  repeat' first | ((with_reducible apply WR.mv); exact rfl; exact rfl) | ((with_reducible apply WH.mv); exact rfl; exact rfl; exact rfl) | ((with_reducible apply WR.le); exact rfl; exact rfl) | ((with_reducible apply WR.nil)) | (with_reducible refine andThen_n ?_) | (with_reducible refine andThen_x ?_) | (with_reducible refine inB_n ?_) | (with_reducible refine inB_x ?_) | (with_reducible refine W.seq ?_) | (with_reducible refine W.region ?_) | (with_reducible refine W.skip ?_) | (with_reducible refine W.ret ?_) | (with_reducible refine W.exit ?_) | (with_reducible refine W.block ?_) | ((with_reducible apply W.condT); exact rfl) | ((with_reducible apply W.condF); exact rfl) | ((with_reducible apply Done.f); (intro hh hh2; exact (nomatch hh2)); (focus ((repeat' first | exact all_nil | apply all_cons | exact res_tmp rfl); done)); (focus ((repeat' first | exact all_nil | apply all_cons | exact retOf_s rfl); done)); exact rfl; (focus ((repeat' first | exact outs_nil | apply outs_d); done))) | ((with_reducible apply WH.nil)) | (with_reducible refine W.draw ?_) | (intro hb; try (exfalso; omega)) | ((with_reducible apply WH.idn); exact rfl; exact rfl; exact rfl; omega; (first | exact Nat.le_of_eq ((encI_length _ _).trans (Nat.mul_one _).symm).symm); exact rfl) | ((with_reducible apply WH.ldd); exact rfl; exact rfl; (first | exact ldId (by first | omega)); exact rfl) | ((with_reducible apply WR.lss); exact rfl; exact rfl; exact rfl) | ((with_reducible apply WR.ad); exact rfl; exact rfl; exact rfl; (first | exact i64_in _ (by omega))) | ((with_reducible apply WH.neq); exact rfl; exact rfl; exact rfl)
  · (refine W.nxt (i + 1) (by first | omega | (dsimp only; omega)) ?_ ⟨rfl, trivial⟩ trivial ⟨rfl, rfl, trivial⟩ trivial trivial); (try dsimp only)
    omega
  · rfl
theorem sameIntsA_gives (L : List Int) (hl : L.length ≤ 100000) : Gives G 388 [asn L, asn L] (rb true) := by
  have hs := sameInts_gives L hl
  refine Gives.by rfl rfl (W.seq ?_)
  repeat' first | ((with_reducible apply WR.c_s (f := 400) (fn := Code.f400)); exact rfl; exact rfl; exact rfl; (exact rfl); (focus ((repeat' first | exact args_nil | apply args_d | exact toD_d rfl | exact all_nil | apply all_cons | exact rfl); done)); exact hs) | ((with_reducible apply WR.mv); exact rfl; exact rfl) | ((with_reducible apply WR.nil)) | (with_reducible refine andThen_n ?_) | (with_reducible refine W.seq ?_) | (with_reducible refine W.region ?_) | (with_reducible refine W.ret ?_) | ((with_reducible apply Done.f); (intro hh hh2; exact (nomatch hh2)); (focus ((repeat' first | exact all_nil | apply all_cons | exact res_tmp rfl | exact rfl); done)); (focus ((repeat' first | exact all_nil | apply all_cons | exact retOf_s rfl | exact rfl); done)); exact rfl; (focus ((repeat' first | exact outs_nil | apply outs_d | exact rfl); done)))
  rfl
theorem sameNil_gives : Gives G 400 [.d (.s .nils), asn []] (rb true) := by
  refine Gives.by rfl rfl (W.seq ?_)
  repeat' first | (with_reducible refine W.loop ?_) | ((with_reducible apply WR.mv); exact rfl; exact rfl) | ((with_reducible apply WR.le); exact rfl; exact rfl) | ((with_reducible apply WR.nil)) | (with_reducible refine andThen_n ?_) | (with_reducible refine andThen_x ?_) | (with_reducible refine andThen_r ?_) | (with_reducible refine inB_x ?_) | (with_reducible refine W.seq ?_) | (with_reducible refine W.region ?_) | (with_reducible refine W.skip ?_) | (with_reducible refine W.ret ?_) | (with_reducible refine W.exit ?_) | (with_reducible refine W.block ?_) | ((with_reducible apply W.condT); exact rfl) | ((with_reducible apply W.condF); exact rfl) | ((with_reducible apply Done.f); (intro hh hh2; exact (nomatch hh2)); (focus ((repeat' first | exact all_nil | apply all_cons | exact res_tmp rfl); done)); (focus ((repeat' first | exact all_nil | apply all_cons | exact retOf_s rfl); done)); exact rfl; (focus ((repeat' first | exact outs_nil | apply outs_d); done))) | (intro hb; try (exfalso; omega)) | ((with_reducible apply WR.lss); exact rfl; exact rfl; exact rfl) | ((with_reducible apply WR.neq); exact rfl; exact rfl; exact rfl)
  all_goals first
    | rfl
    | (exfalso; exact hb rfl)
theorem sameNilA_gives : Gives G 388 [.d (.s .nils), asn []] (rb true) := by
  have hs := sameNil_gives
  refine Gives.by rfl rfl (W.seq ?_)
  repeat' first | ((with_reducible apply WR.c_s (f := 400) (fn := Code.f400)); exact rfl; exact rfl; exact rfl; (exact rfl); (focus ((repeat' first | exact args_nil | apply args_d | exact toD_d rfl | exact all_nil | apply all_cons | exact rfl); done)); exact hs) | ((with_reducible apply WR.mv); exact rfl; exact rfl) | ((with_reducible apply WR.nil)) | (with_reducible refine andThen_n ?_) | (with_reducible refine W.seq ?_) | (with_reducible refine W.region ?_) | (with_reducible refine W.ret ?_) | ((with_reducible apply Done.f); (intro hh hh2; exact (nomatch hh2)); (focus ((repeat' first | exact all_nil | apply all_cons | exact res_tmp rfl | exact rfl); done)); (focus ((repeat' first | exact all_nil | apply all_cons | exact retOf_s rfl | exact rfl); done)); exact rfl; (focus ((repeat' first | exact outs_nil | apply outs_d | exact rfl); done)))
  rfl
theorem readTold_gives (l : List Rnd) (hl : RndOk l) : Gives G 297 [.d (.s (.str (toldT l)))] ⟨[.own l.length 2 (encO l), .s (.int .i64 0)], []⟩ := by
  have h1 := toldT_len l
  have hr := progRR_gives (toldT l) (by have := hl.2; omega)
  obtain ⟨h2, h3⟩ := goodR_told hl rfl
  unfold readRR at hr
  rw [if_pos h2, h3] at hr
  exact hr
end Go.DM
