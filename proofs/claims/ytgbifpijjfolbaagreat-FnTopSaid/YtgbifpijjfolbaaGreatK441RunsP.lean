/- Rounds are read from their text: the plain part. -/
import Derived.Test.YtgbifpijjfolbaaGreatK441Beside
import Derived.Test.YtgbifpijjfolbaaGreatK441WeedF
import Derived.Test.YtgbifpijjfolbaaGreatK441Weeds
import Derived.Test.YtgbifpijjfolbaaGreatK441Loop
import Derived.Test.YtgbifpijjfolbaaGreatK441WeedH
import Derived.Test.YtgbifpijjfolbaaGreatK441Src
import Derived.Test.YtgbifpijjfolbaaGreatK441Text
import Derived.Test.YtgbifpijjfolbaaGreatK441All
set_option linter.all false
set_option maxHeartbeats 4000000
namespace Go.DM
variable [Tok]
open Go.IntWalk
def rdW (w : List UInt8) : Rnd := (gB w 1 - 48, decide (gB w 0 = 104))
def rdA (s : List UInt8) : List Rnd := if s = [] then [] else (pieces 32 s).map rdW
def GoodR (s : List UInt8) : Prop := RndOk (rdA s) ∧ toldT (rdA s) = s
theorem map_id {α : Type} {f : α → α} : ∀ {l : List α}, (∀ x ∈ l, f x = x) → l.map f = l
  | [], _ => rfl
  | a :: l, h => by rw [List.map_cons, h a (List.mem_cons_self ..), map_id fun x hx => h x (List.mem_cons_of_mem _ hx)]
end Go.DM

/- What the statements do with rows of cells and of numbers: they are compared, marked, and looked at again. -/
set_option maxHeartbeats 4000000
namespace Go.DM
variable [Tok]
open Go.IntWalk
def marks (k : Int) (n : Nat) : List Cel := (List.range n).map fun (i : Nat) => (IntKind.i8.wrap (k + 2 * (i : Nat)), IntKind.i8.wrap (k + 2 * (i : Nat) + 1))
end Go.DM

/- Rounds marked, the marks read again; the reference's numbers. -/
set_option maxHeartbeats 4000000
namespace Go.DM
variable [Tok]
open Go.IntWalk
def DigL (s : List UInt8) : Prop := ∀ i, i < s.length → 48 ≤ gB s i ∧ gB s i ≤ 57
instance (s : List UInt8) : Decidable (DigL s) := inferInstanceAs (Decidable (∀ i, i < s.length → _))
def NumOk (s : List UInt8) : Prop := (s ≠ [] ∧ s.length ≤ 10 ∧ ¬ (gB s 0 = 48 ∧ 1 < s.length)) ∧ DigL s
instance (s : List UInt8) : Decidable (NumOk s) := inferInstanceAs (Decidable ((_ ∧ _ ∧ ¬ _) ∧ _))
end Go.DM

/- strings.Split and number, as given; the pieces of a text are no longer than it. -/
namespace Go.DM
variable [Tok]
end Go.DM

/- NightOf: the program's side. -/
namespace Go.DM
variable [Tok]
open Go.IntWalk
variable {w h : Int} {g : Nat → Int} {cs : List S} {q : Nat → Int} {qs : List S}
section
variable {Γ : Nat → Option Fn} {dsts : Nat → Option Nat} {ops : List Oper} {Q : St → Prop} {σ : St} {d : Option Nat} {gd : Option (Nat × Bool)} {l1 l2 l3 l4 : List Nat}
theorem WH.s2 {es p off n l h : Nat} {a : Opd} {lo hi : Option Opd} (hw : wanted dsts (kill l1 (only l3 σ)).env gd = some true) (ha : ev (kill l1 (only l3 σ)).env a = .a (.sl p off n es)) (hl : bound (lo.map (ev (kill l1 (only l3 σ)).env)) 0 = some l) (hh : bound (hi.map (ev (kill l1 (only l3 σ)).env)) n = some h) (hb : l ≤ h ∧ h ≤ n)
    (hv : killV l1 (.a (.sl p (off + l * es) (h - l) es)) = .a (.sl p (off + l * es) (h - l) es)) (K : WH Γ dsts ops Q (set d (.a (.sl p (off + l * es) (h - l) es)) σ)) : WH Γ dsts (⟨d, .slc (.sl es) a lo hi, gd, l1, l2, l3, l4⟩ :: ops) Q σ :=
  WH.q hw (by simp only [veil, quiet, ha, slc, hl, hh, Option.bind_some]; rw [if_pos ⟨hb.1, hb.2, trivial⟩]) hv K
end
theorem belowCode_congr {a b c a' b' c' : Prop} {d1 : Decidable a} {d2 : Decidable b} {d3 : Decidable c} {e1 : Decidable a'} {e2 : Decidable b'} {e3 : Decidable c'} (h1 : a ↔ a') (h2 : b ↔ b') (h3 : c ↔ c') : belowCode a b c = belowCode a' b' c' := by
  unfold belowCode
  by_cases k1 : a <;> by_cases k2 : b <;> by_cases k3 : c <;> simp [k1, k2, k3, ← h1, ← h2, ← h3]
end Go.DM

/- The statements' own functions: copies of cells, lawns, levels. -/
namespace Go.DM
variable [Tok]
open Go.IntWalk
end Go.DM

/- Rounds are read from their text: the walks, the statement. -/
set_option maxHeartbeats 4000000
namespace Go.DM
variable [Tok]
open Go.IntWalk
open Classical in
noncomputable def readRR (bad : Ret) (s : List UInt8) : Res := if GoodR s then ⟨[.own (rdA s).length 2 (encO (rdA s)), .s (.int .i64 0)], []⟩ else ⟨[bad, .s (.int .i64 5)], []⟩
end Go.DM

/- Rounds are read from their text: the program's walk. -/
set_option maxHeartbeats 4000000
namespace Go.DM
variable [Tok]
open Go.IntWalk
end Go.DM

/- Rounds: what is drawn; lists held against each other. -/
set_option maxHeartbeats 4000000
namespace Go.DM
variable [Tok]
open Go.IntWalk
variable {w h : Int} {g : Nat → Int} {cs : List S}
section
variable {Γ : Nat → Option Fn} {dsts : Nat → Option Nat} {ops : List Oper} {Q : St → Prop} {σ : St} {d : Option Nat} {gd : Option (Nat × Bool)} {l1 l2 l3 l4 : List Nat}
theorem eqSs_same : ∀ {ks : List SK} {cs : List S}, hasKs ks cs = true → eqSs cs cs = true
  | [], [], _ => rfl
  | k :: ks, x :: xs, h => by
    simp only [hasKs, Bool.and_eq_true] at h
    simp only [eqSs, Bool.and_eq_true]
    refine ⟨?_, eqSs_same h.2⟩
    cases x <;> cases k <;> simp [hasK] at h <;> simp [eqS]
  | [], _ :: _, h => by simp [hasKs] at h
  | _ :: _, [], h => by simp [hasKs] at h
theorem WR.ees {a b : Opd} {ks : List SK} {c : List S} (hw : wanted dsts σ.env gd = some true) (ha : ev σ.env a = .a (.d (.agg c))) (hb : ev σ.env b = .a (.d (.agg c))) (hk : hasKs ks c = true)
    (K : WR Γ dsts ops Q (set d (.a (.d (.s (.bool false)))) σ)) : WR Γ dsts (⟨d, .eqa true true ks a b, gd, l1, l2, l3, l4⟩ :: ops) Q σ :=
  WR.q hw (by simp [quiet, ha, hb, cellsA, hk, eqSs_same hk, sv]) K
theorem WH.ees {a b : Opd} {ks : List SK} {c : List S} (hw : wanted dsts (kill l1 (only l3 σ)).env gd = some true) (ha : ev (kill l1 (only l3 σ)).env a = .a (.d (.agg c))) (hb : ev (kill l1 (only l3 σ)).env b = .a (.d (.agg c))) (hk : hasKs ks c = true)
    (K : WH Γ dsts ops Q (set d (.a (.d (.s (.bool false)))) σ)) : WH Γ dsts (⟨d, .eqa true true ks a b, gd, l1, l2, l3, l4⟩ :: ops) Q σ :=
  WH.q hw (by simp [veil, quiet, ha, hb, cellsA, hk, eqSs_same hk, sv]) rfl K
theorem WR.it1 {i : Nat} {a j : Opd} {k : IntKind} {n : Nat} (hw : wanted dsts σ.env gd = some true) (ha : ev σ.env a = .a (.d (.s (.tok i)))) (hi : ev σ.env j = .a (.d (.s (.int k (n : Nat))))) (hb : n < (Tok.dat i).length)
    (K : WR Γ dsts ops Q (set d (.a (.dptr (u8s (Tok.dat i)) n)) σ)) : WR Γ dsts (⟨d, .idxs 1 a j, gd, l1, l2, l3, l4⟩ :: ops) Q σ :=
  WR.q hw (by simp only [quiet, ha, hi, idxs, asI, Option.bind_some]; rw [if_neg (by omega), if_pos ⟨by omega, trivial⟩]; rfl) K
theorem WR.bRd {a : Opd} {x : Int} (hw : wanted dsts σ.env gd = some true) (ha : ev σ.env a = .a (.d (.s (.int .i8 x)))) (k : WR Γ dsts ops Q (set d (.a (.d (.agg [.int .i8 x, .bool false]))) σ)) : WR Γ dsts (⟨d, .build [.int .i8 0, .bool false] [(0, 1, a)], gd, l1, l2, l3, l4⟩ :: ops) Q σ :=
  WR.q hw (by simp [quiet, all?, ha, cellsOf, fill, av]) k
end
theorem a2LongB_gives (i j : Nat) (hi : (Tok.dat i).length ≤ 9223372036854775807) (hj : (Tok.dat j).length ≤ 9223372036854775807) : Gives G 381 [.d (.s (.tok i)), .d (.s (.tok j))] (rb (decide (3000 < (Tok.dat i).length ∨ 3000 < (Tok.dat j).length))) := by
  refine Gives.by rfl rfl (W.seq ?_)
  repeat' first | ((with_reducible first | apply WR.mv | apply WR.le | apply WR.pk); exact rfl; exact rfl) | (with_reducible first | apply WR.nil | refine andThen_n ?_ | refine W.seq ?_ | refine W.region ?_ | refine W.ret ?_) | ((with_reducible apply Done.f); (intro hh hh2; exact (nomatch hh2)); (focus ((repeat' first | exact all_nil | apply all_cons | exact res_tmp rfl); done)); (focus ((repeat' first | exact all_nil | apply all_cons | exact retOf_s rfl); done)); exact rfl; (focus ((repeat' first | exact outs_nil | apply outs_d); done))) | (intro hb; try (exfalso; omega)) | ((with_reducible apply WR.gtr); iterate 3 exact rfl) | ((with_reducible apply WR.off); exact rfl)
  all_goals first
    | exact rb_t (by omega)
    | exact rb_f (by omega)
def atV (i k : Nat) (n : Int) : Int := if k < (Tok.dat i).length then (gT (Tok.dat i) k).tmod n else 0
theorem atV_b (i k : Nat) {n : Int} (hn : 1 ≤ n) : 0 ≤ atV i k n ∧ atV i k n < n := by
  unfold atV
  split
  · exact tmod_bound (gT_bound _ _).1 (by omega)
  · omega
theorem a2At_gives (i k : Nat) (n : Int) (hn : 1 ≤ n ∧ n ≤ 1000) (hk : k ≤ 1000) (hl : (Tok.dat i).length ≤ 1000000000) : Gives G 406 [.d (.s (.tok i)), ai .i64 (k : Nat), ai .i64 n] (ri .i64 (atV i k n)) := by
  have hg := gT_bound (Tok.dat i) k
  refine Gives.by rfl rfl (W.seq ?_)
  by_cases h : k < (Tok.dat i).length
  · have e : atV i k n = (gT (Tok.dat i) k).tmod n := if_pos h
    rw [e]
    repeat' first | ((with_reducible apply WR.it1); (iterate 3 exact rfl); exact h) | ((with_reducible apply WR.ldd); exact rfl; exact rfl; exact ldT h) | ((with_reducible apply WR.rmi); (iterate 3 exact rfl); omega) | ((with_reducible first | apply WR.mv | apply WR.pk | apply WR.le); exact rfl; exact rfl) | (with_reducible first | apply WR.nil | refine andThen_n ?_ | refine W.seq ?_ | refine W.region ?_ | refine W.skip ?_ | refine W.ret ?_) | ((with_reducible apply W.condF); exact rfl) | ((with_reducible apply Done.f); (intro hh hh2; exact (nomatch hh2)); (focus ((repeat' first | exact all_nil | apply all_cons | exact res_tmp rfl); done)); (focus ((repeat' first | exact all_nil | apply all_cons | exact retOf_s rfl); done)); exact rfl; (focus ((repeat' first | exact outs_nil | apply outs_d); done))) | (intro hb; try (exfalso; omega)) | ((with_reducible first | apply WR.lss | apply WR.geq); iterate 3 exact rfl) | ((with_reducible apply WR.cv); exact rfl; exact rfl; (exact i64_in _ (by omega)))
    all_goals first
      | rfl
      | (exfalso; omega)
  · have e : atV i k n = 0 := if_neg h
    rw [e]
    repeat' first | ((with_reducible first | apply WR.mv | apply WR.pk | apply WR.le); exact rfl; exact rfl) | (with_reducible first | apply WR.nil | refine andThen_n ?_ | refine andThen_r ?_ | refine W.seq ?_ | refine W.region ?_ | refine W.ret ?_) | ((with_reducible apply W.condT); exact rfl) | ((with_reducible apply Done.f); (intro hh hh2; exact (nomatch hh2)); (focus ((repeat' first | exact all_nil | apply all_cons | exact res_tmp rfl); done)); (focus ((repeat' first | exact all_nil | apply all_cons | exact retOf_s rfl); done)); exact rfl; (focus ((repeat' first | exact outs_nil | apply outs_d); done))) | (intro hb; try (exfalso; omega)) | ((with_reducible apply WR.off); exact rfl) | ((with_reducible apply WR.geq); iterate 3 exact rfl)
    all_goals first
      | rfl
      | (exfalso; omega)
theorem a2Lawn_gives (i : Nat) (hl : (Tok.dat i).length ≤ 1000000000) :
    ∃ (w h : Int) (q : Nat → Int), (1 ≤ w ∧ w ≤ 6) ∧ (1 ≤ h ∧ h ≤ 6) ∧ kindsOk w h q ∧ Gives G 403 [.d (.s (.tok i))] ⟨[.agg (lwn w h q)], []⟩ := by
  obtain ⟨w, h, q, n', seed', h1, h2, h3, h4, h5, h6, hg⟩ := drawn_gives i 0 0 (by omega) hl
  refine ⟨w, h, q, ⟨h1, h2⟩, ⟨h3, h4⟩, h5, ?_⟩
  have lq := lwn_is ⟨h1, h2⟩ ⟨h3, h4⟩ h5
  have ho := from_gives i
  refine Gives.by rfl rfl (W.seq ?_)
  repeat' first | ((with_reducible apply WR.c_n (f := 375) (fn := Code.f375)); (iterate 3 exact rfl); exact rfl; (focus ((repeat' first | exact args_nil | apply args_d | (apply args_p; exact rfl; exact rfl) | exact toD_d rfl | exact all_nil | apply all_cons | exact rfl); done)); exact ho; exact rfl) | ((with_reducible apply WR.c_wa (f := 374) (fn := Code.f374)); (iterate 3 exact rfl); (focus ((repeat' first | exact args_nil | apply args_d | (apply args_p; exact rfl; exact rfl) | exact toD_d rfl | exact all_nil | apply all_cons | exact rfl); done)); exact hg; (focus ((repeat' first | exact backs_nil | (apply backs_p; exact rfl; exact rfl; exact (by first | exact IsLawn.len (by assumption) | exact rfl)) | exact rfl); done)); dsimp only [insertAll]) | (with_reducible first | apply WR.nil | refine andThen_n ?_ | refine W.seq ?_ | refine W.region ?_ | refine W.ret ?_) | ((with_reducible apply Done.f); (intro hh hh2; exact (nomatch hh2)); (focus ((repeat' first | exact all_nil | apply all_cons | exact res_cell rfl rfl (by first | exact IsLawn.len (by assumption) | exact rfl) | exact rfl); done)); (focus ((repeat' first | exact all_nil | apply all_cons | exact retOf_a rfl | exact rfl); done)); exact rfl; (focus ((repeat' first | exact outs_nil | apply outs_d | exact rfl); done))) | ((with_reducible apply WR.mv); exact rfl; exact rfl) | ((with_reducible apply WR.al); exact rfl; exact rfl) | ((with_reducible apply WR.st); (iterate 3 exact rfl); exact storeAll (by first | exact IsLawn.len (by assumption) | exact rfl) (by first | exact IsLawn.len (by assumption) | exact rfl))
  rfl
theorem zero_good : WGood w h g (fun _ => 0) := ⟨fun k _ => ⟨Int.le_refl _, by show (0 : Int) < 65536; decide⟩, fun y hy x hx hb => by
  simp only [bitQ, Int.zero_ediv] at hb
  exact absurd hb (by decide)⟩
theorem l07Drawn_gives (l : IsLawn w h g cs) (hok : LawnOk w h g) (i : Nat) (hl : (Tok.dat i).length ≤ 1000000000) :
    ∃ r : Res, (∃ (q : Nat → Int) (n' : Nat) (seed' : Int), WGood w h g q ∧ r = ⟨[.agg (wR q)], [srcC i n' seed']⟩) ∧ Gives G 420 [.mp (srcC i 0 0), ar cs] r := by
  have hs1 := hok.1
  have hs2 := hok.2.1
  obtain ⟨r1, n1, s1, a1, _, b1, c1, g1⟩ := pick_gives i 0 0 6 (by omega) hl (by omega)
  have hb1 := b1 (by omega)
  have hal := l01All_gives l (by omega)
  have hAl := allC_len (w := w) (h := h) ⟨by omega, by omega⟩
  have hmem := fun c => allC_mem (w := w) (h := h) (c := c)
  generalize allC w h = A at hal hAl hmem
  refine GivesP.by rfl rfl (W.seq ?_)
  repeat' first | ((with_reducible apply WR.c_ws (f := 377) (fn := Code.f377)); (iterate 3 exact rfl); (focus ((repeat' first | exact args_nil | apply args_d | (apply args_p; exact rfl; exact rfl) | exact toD_d rfl | exact rfl); done)); exact g1; (focus ((repeat' first | exact backs_no | (apply backs_p; exact rfl; exact rfl; exact (by first | exact List.length_replicate .. | exact rfl)) | exact rfl); done)); dsimp only [insertAll]) | ((with_reducible apply WR.c_o (f := 60) (fn := Code.f60)); (iterate 3 exact rfl); (first | exact rfl | exact backs_no); (focus ((repeat' first | exact args_nil | apply args_d | (apply args_p; exact rfl; exact rfl) | exact toD_d rfl | exact rfl); done)); exact hal; exact rfl) | ((with_reducible first | apply WR.mv | apply WR.bu); exact rfl; exact rfl) | (with_reducible first | apply WR.nil | refine andThen_n ?_ | refine W.seq ?_ | refine W.region ?_ | refine W.block ?_) | ((with_reducible apply WR.ad); (iterate 3 exact rfl); (exact i64_in _ (by omega))) | ((with_reducible apply WR.al); exact rfl; exact rfl) | ((with_reducible apply WR.st); (iterate 3 exact rfl); exact storeAll (by first | exact List.length_replicate .. | exact rfl) (by first | exact List.length_replicate .. | exact rfl))
  (refine (?_ : W _ (Code.loop _) _ _))
  (refine W.loopM [0, 1, 4, 5, 6, 7] [4, 14] [] (fun ((k, n, sd, q) : (Nat) × (Nat) × (Int) × (Nat → Int)) => (A.length - k : Nat)) (fun ((k, n, sd, q) : (Nat) × (Nat) × (Int) × (Nat → Int)) => (k ≤ A.length ∧ n ≤ n1 + k ∧ WGood w h g q : Prop)) (fun z : (Nat) × (Nat) × (Int) × (Nat → Int) => match z with | (k, n, sd, q) => [(8, .a (.d (.s (.int .i64 (k : Nat)))))]) (fun z : (Nat) × (Nat) × (Int) × (Nat → Int) => match z with | (k, n, sd, q) => [(0, .flat true (srcC i n sd)), (5, .flat false (wR q))]) (0, n1, s1, fun _ => 0) (⟨by omega, by omega, zero_good⟩) ⟨rfl, trivial⟩ ⟨rfl, rfl, trivial⟩ trivial ?_)
  rintro ⟨k, n, sd, q⟩ σ hP hN; dsimp only [setL, putL] at hP ⊢
  obtain ⟨hk, hn', hq⟩ := hP
  by_cases hka : k < A.length
  · have hH := hmem _ (gC_mem hka)
    simp only [Has] at hH
    have hso := l07Soil_gives l (gC A k).1 (gC A k).2 ⟨by omega, by omega⟩ (by omega)
    obtain ⟨o, n5, s5, c5, g5⟩ := one_gives i n sd (2 + r1) (by omega) hl (by omega)
    by_cases hS : Soil w h g (gC A k).1 (gC A k).2
    · rw [decide_eq_true hS] at hso
      cases o
      · repeat' first | ((with_reducible apply WR.c_s (f := 316) (fn := Code.f316)); (iterate 3 exact rfl); (first | exact rfl | exact backs_no); (focus ((repeat' first | exact args_nil | apply args_d | (apply args_p; exact rfl; exact rfl) | exact toD_d rfl | exact rfl); done)); exact hso) | ((with_reducible apply WR.c_ws (f := 378) (fn := Code.f378)); (iterate 3 exact rfl); (focus ((repeat' first | exact args_nil | apply args_d | (apply args_p; exact rfl; exact rfl) | exact toD_d rfl | exact rfl); done)); exact g5; (focus ((repeat' first | exact backs_no | (apply backs_p; exact rfl; exact rfl; exact (by first | exact rfl)) | exact rfl); done)); dsimp only [insertAll]) | ((with_reducible first | apply WR.mv | apply WR.pk | apply WR.le); exact rfl; exact rfl) | (with_reducible first | apply WR.nil | refine andThen_n ?_ | refine inB_n ?_ | refine W.seq ?_ | refine W.region ?_ | refine W.skip ?_ | refine W.block ?_) | ((with_reducible apply W.condT); exact rfl) | ((with_reducible apply W.condF); exact rfl) | (intro hb; try (exfalso; omega)) | ((with_reducible apply WR.ad); (iterate 3 exact rfl); (exact i64_in _ (by omega))) | ((with_reducible apply WR.ld); (iterate 3 exact rfl); (first | exact ldC (by first | omega))) | ((with_reducible apply WR.lss); iterate 3 exact rfl) | ((with_reducible apply WR.isn); (iterate 3 exact rfl); omega)
        (refine W.nxt (k + 1, n5, s5, q) (by first | omega | (dsimp only; omega)) ?_ ⟨rfl, trivial⟩ ⟨rfl, rfl, trivial⟩ ⟨rfl, rfl, rfl, rfl, rfl, rfl, trivial⟩ ⟨rfl, rfl, trivial⟩ trivial); (try dsimp only)
        exact ⟨by omega, by omega, hq⟩
      · repeat' first | ((with_reducible apply WR.c_s (f := 316) (fn := Code.f316)); (iterate 3 exact rfl); (first | exact rfl | exact backs_no); (focus ((repeat' first | exact args_nil | apply args_d | (apply args_p; exact rfl; exact rfl) | exact toD_d rfl | exact rfl); done)); exact hso) | ((with_reducible apply WR.c_ws (f := 378) (fn := Code.f378)); (iterate 3 exact rfl); (focus ((repeat' first | exact args_nil | apply args_d | (apply args_p; exact rfl; exact rfl) | exact toD_d rfl | exact rfl); done)); exact g5; (focus ((repeat' first | exact backs_no | (apply backs_p; exact rfl; exact rfl; exact (by first | exact IsLawn.len (by assumption) | exact rfl)) | exact rfl); done)); dsimp only [insertAll]) | ((with_reducible apply WH.orb); iterate 3 exact rfl) | ((with_reducible first | apply WR.mv | apply WR.pk | apply WR.le); exact rfl; exact rfl) | ((with_reducible first | apply WH.mv | apply WH.fa | apply WR.lss); iterate 3 exact rfl) | ((with_reducible apply WH.ld); (iterate 3 exact rfl); (first | exact ldC (by first | omega) | exact ldCx (by first | omega) | exact ldCy (by first | omega) | exact ldR (by omega)); exact rfl) | (with_reducible first | apply WR.nil | refine andThen_n ?_ | refine inB_n ?_ | refine W.seq ?_ | refine W.region ?_ | refine W.skip ?_ | refine W.block ?_ | apply WH.nil | refine W.draw ?_) | ((with_reducible apply W.condT); exact rfl) | ((with_reducible first | apply WH.isn | apply WH.ia); (iterate 3 exact rfl); omega; exact rfl) | (intro hb; try (exfalso; omega)) | ((with_reducible apply WR.ad); (iterate 3 exact rfl); (first | exact i64_in _ (by omega) | exact u64_in _ (by omega))) | ((with_reducible apply WR.ld); (iterate 3 exact rfl); (first | exact ldC (by first | omega) | exact ldCx (by first | omega) | exact ldCy (by first | omega) | exact ldR (by omega))) | ((with_reducible first | apply WR.isn | apply WH.b1s); (iterate 3 exact rfl); omega) | ((with_reducible apply WH.cv); exact rfl; exact rfl; (first | exact i64_in _ (by omega) | exact u64_in _ (by omega))) | ((with_reducible apply WH.st); (iterate 3 exact rfl); exact stR (by omega); exact rfl; exact rfl)
        (refine W.nxt (k + 1, n5, s5, gset q (gC A k).2.toNat (orB (q (gC A k).2.toNat) (2 ^ (gC A k).1.toNat))) (by first | omega | (dsimp only; omega)) ?_ ⟨rfl, trivial⟩ ⟨rfl, rfl, trivial⟩ ⟨rfl, rfl, rfl, rfl, rfl, rfl, trivial⟩ ⟨rfl, rfl, trivial⟩ trivial); (try dsimp only)
        refine ⟨by omega, by omega, hq.put (by omega) (by omega) ?_⟩
        rw [show (((gC A k).1.toNat : Nat) : Int) = (gC A k).1 by omega, show (((gC A k).2.toNat : Nat) : Int) = (gC A k).2 by omega]
        exact hS
    · rw [decide_eq_false hS] at hso
      repeat' first | ((with_reducible apply WR.c_s (f := 316) (fn := Code.f316)); (iterate 3 exact rfl); exact rfl; (focus ((repeat' first | exact args_nil | apply args_d | exact toD_d rfl | exact rfl); done)); exact hso) | ((with_reducible first | apply WR.mv | apply WR.pk | apply WR.le); exact rfl; exact rfl) | (with_reducible first | apply WR.nil | refine andThen_n ?_ | refine inB_n ?_ | refine W.seq ?_ | refine W.region ?_ | refine W.skip ?_ | refine W.block ?_) | ((with_reducible apply W.condT); exact rfl) | ((with_reducible apply W.condF); exact rfl) | (intro hb; try (exfalso; omega)) | ((with_reducible apply WR.ad); (iterate 3 exact rfl); (exact i64_in _ (by omega))) | ((with_reducible apply WR.ld); (iterate 3 exact rfl); (first | exact ldC (by first | omega))) | ((with_reducible apply WR.off); exact rfl) | ((with_reducible apply WR.lss); iterate 3 exact rfl) | ((with_reducible apply WR.isn); (iterate 3 exact rfl); omega)
      (refine W.nxt (k + 1, n, sd, q) (by first | omega | (dsimp only; omega)) ?_ ⟨rfl, trivial⟩ ⟨rfl, rfl, trivial⟩ ⟨rfl, rfl, rfl, rfl, rfl, rfl, trivial⟩ ⟨rfl, rfl, trivial⟩ trivial); (try dsimp only)
      exact ⟨by omega, by omega, hq⟩
  · repeat' first | ((with_reducible first | apply WR.mv | apply WR.le); exact rfl; exact rfl) | (with_reducible first | apply WR.nil | refine andThen_n ?_ | refine andThen_x ?_ | refine inB_x ?_ | refine W.seq ?_ | refine W.region ?_ | refine W.ret ?_ | refine W.exit ?_) | ((with_reducible apply W.condF); exact rfl) | (intro hb; try (exfalso; omega)) | ((with_reducible apply WR.ld); (iterate 3 exact rfl); (exact loadC_all rowI_len)) | ((with_reducible apply WR.st); (iterate 3 exact rfl); exact storeAll (by first | exact List.length_replicate .. | exact rowI_len) (by first | exact List.length_replicate .. | exact rowI_len)) | ((with_reducible apply WR.lss); iterate 3 exact rfl)
    apply DoneP.mk
    · repeat' first | ((with_reducible apply Done.f); (intro hh hh2; exact (nomatch hh2)); (focus ((repeat' first | exact all_nil | apply all_cons | exact res_cell rfl rfl (by first | exact rowI_len | exact rfl) | exact rfl); done)); (focus ((repeat' first | exact all_nil | apply all_cons | exact retOf_a rfl | exact rfl); done)); exact rfl; (focus ((repeat' first | exact outs_nil | apply outs_d | (apply outs_mp; exact rfl; exact (by first | exact rowI_len | exact rfl)) | exact rfl); done)))
      rfl
    · exact ⟨q, n, sd, hq, rfl⟩
theorem a2Weeds_gives (l : IsLawn w h g cs) (hok : LawnOk w h g) (i : Nat) (hl : (Tok.dat i).length ≤ 1000000000) :
    ∃ q : Nat → Int, WGood w h g q ∧ Gives G 404 [.d (.s (.tok i)), aa cs] ⟨[.agg (wR q)], []⟩ := by
  obtain ⟨r, ⟨q, n', seed', hq, rfl⟩, hg⟩ := l07Drawn_gives l hok i hl
  refine ⟨q, hq, ?_⟩
  have ho := from_gives i
  refine Gives.by rfl rfl (W.seq ?_)
  repeat' first | ((with_reducible apply WR.c_n (f := 375) (fn := Code.f375)); (iterate 3 exact rfl); (first | exact rfl | exact backs_no); (focus ((repeat' first | exact args_nil | apply args_d | (apply args_p; exact rfl; exact rfl) | exact toD_d rfl | exact toD_ptr rfl rfl | exact all_nil | apply all_cons | exact rfl); done)); exact ho; exact rfl) | ((with_reducible apply WR.c_wa (f := 420) (fn := Code.f420)); (iterate 3 exact rfl); (focus ((repeat' first | exact args_nil | apply args_d | (apply args_p; exact rfl; exact rfl) | exact toD_d rfl | exact toD_ptr rfl rfl | exact all_nil | apply all_cons | exact rfl); done)); exact hg; (focus ((repeat' first | exact backs_no | (apply backs_p; exact rfl; exact rfl; exact (by first | exact List.length_replicate .. | exact IsLawn.len (by assumption) | exact rowI_len | exact rfl)) | exact rfl); done)); dsimp only [insertAll]) | (with_reducible first | apply WR.nil | refine andThen_n ?_ | refine W.seq ?_ | refine W.region ?_ | refine W.ret ?_) | ((with_reducible apply Done.f); (intro hh hh2; exact (nomatch hh2)); (focus ((repeat' first | exact all_nil | apply all_cons | exact res_cell rfl rfl (by first | exact List.length_replicate .. | exact IsLawn.len (by assumption) | exact rowI_len | exact rfl) | exact rfl); done)); (focus ((repeat' first | exact all_nil | apply all_cons | exact retOf_a rfl | exact rfl); done)); exact rfl; (focus ((repeat' first | exact outs_nil | apply outs_d | exact rfl); done))) | ((with_reducible apply WR.mv); exact rfl; exact rfl) | ((with_reducible apply WR.bx); exact rfl; exact rfl; exact (by first | exact List.length_replicate .. | exact IsLawn.len (by assumption) | exact rowI_len | exact rfl); exact rfl) | ((with_reducible apply WR.al); exact rfl; exact rfl) | ((with_reducible apply WR.st); (iterate 3 exact rfl); exact storeAll (by first | exact List.length_replicate .. | exact IsLawn.len (by assumption) | exact rowI_len | exact rfl) (by first | exact List.length_replicate .. | exact IsLawn.len (by assumption) | exact rowI_len | exact rfl))
  rfl
abbrev asn (L : List Int) : Arg := .d (.sl L.length 1 (encI .i64 L))
theorem sameInts_gives (L : List Int) (hl : L.length ≤ 100000) : Gives G 400 [asn L, asn L] (rb true) := by
  refine Gives.by rfl rfl (W.seq ?_)
  repeat' first | ((with_reducible first | apply WR.mv | apply WR.le); exact rfl; exact rfl) | (with_reducible first | apply WR.nil | refine andThen_n ?_ | refine W.seq ?_ | refine W.region ?_ | refine W.skip ?_ | refine W.block ?_) | ((with_reducible apply W.condF); exact rfl) | (intro hb; try (exfalso; omega)) | ((with_reducible apply WR.neq); iterate 3 exact rfl)
  (refine (?_ : W _ (Code.loop _) _ _))
  (refine W.loopM [0, 1] [] [] (fun i : (Nat) => (L.length - i : Nat)) (fun i : (Nat) => (i ≤ L.length : Prop)) (fun i : (Nat) => [(5, .a (.d (.s (.int .i64 (i : Nat)))))]) (fun i : (Nat) => []) 0 (by (try dsimp only); first | omega | exact trivial | exact ⟨by omega, rfl⟩ | exact ⟨by omega, by omega, rfl⟩ | (refine ⟨by omega, ?_⟩; simp; done) | (simp; done)) ⟨rfl, trivial⟩ trivial trivial ?_)
  rintro i σ hP hN; dsimp only [setL, putL] at hP ⊢
  repeat' first | ((with_reducible first | apply WR.mv | apply WR.le); exact rfl; exact rfl) | ((with_reducible first | apply WH.mv | apply WR.lss | apply WH.neq); iterate 3 exact rfl) | (with_reducible first | apply WR.nil | refine andThen_n ?_ | refine andThen_x ?_ | refine inB_n ?_ | refine inB_x ?_ | refine W.seq ?_ | refine W.region ?_ | refine W.skip ?_ | refine W.ret ?_ | refine W.exit ?_ | refine W.block ?_ | apply WH.nil | refine W.draw ?_) | ((with_reducible apply W.condT); exact rfl) | ((with_reducible apply W.condF); exact rfl) | ((with_reducible apply Done.f); (intro hh hh2; exact (nomatch hh2)); (focus ((repeat' first | exact all_nil | apply all_cons | exact res_tmp rfl); done)); (focus ((repeat' first | exact all_nil | apply all_cons | exact retOf_s rfl); done)); exact rfl; (focus ((repeat' first | exact outs_nil | apply outs_d); done))) | (intro hb; try (exfalso; omega)) | ((with_reducible apply WH.idn); (iterate 3 exact rfl); omega; (exact Nat.le_of_eq ((encI_length _ _).trans (Nat.mul_one _).symm).symm); exact rfl) | ((with_reducible apply WH.ldd); exact rfl; exact rfl; (first | exact ldId (by first | omega)); exact rfl) | ((with_reducible apply WR.ad); (iterate 3 exact rfl); (exact i64_in _ (by omega)))
  · (refine W.nxt (i + 1) (by first | omega | (dsimp only; omega)) ?_ ⟨rfl, trivial⟩ trivial ⟨rfl, rfl, trivial⟩ trivial trivial); (try dsimp only)
    omega
  · rfl
theorem sameIntsA_gives (L : List Int) (hl : L.length ≤ 100000) : Gives G 388 [asn L, asn L] (rb true) := by
  have hs := sameInts_gives L hl
  refine Gives.by rfl rfl (W.seq ?_)
  repeat' first | ((with_reducible apply WR.c_s (f := 400) (fn := Code.f400)); (iterate 3 exact rfl); exact rfl; (focus ((repeat' first | exact args_nil | apply args_d | exact toD_d rfl | exact all_nil | apply all_cons | exact rfl); done)); exact hs) | ((with_reducible apply WR.mv); exact rfl; exact rfl) | (with_reducible first | apply WR.nil | refine andThen_n ?_ | refine W.seq ?_ | refine W.region ?_ | refine W.ret ?_) | ((with_reducible apply Done.f); (intro hh hh2; exact (nomatch hh2)); (focus ((repeat' first | exact all_nil | apply all_cons | exact res_tmp rfl | exact rfl); done)); (focus ((repeat' first | exact all_nil | apply all_cons | exact retOf_s rfl | exact rfl); done)); exact rfl; (focus ((repeat' first | exact outs_nil | apply outs_d | exact rfl); done)))
  rfl
end Go.DM

/- Rows of records: runs (three numbers), states of a search (for FnTop). -/
set_option maxHeartbeats 4000000
namespace Go.DM
variable [Tok]
open Go.IntWalk
section
variable {α : Type}
def encX (F : α → List S) : List α → List S
  | [] => []
  | a :: l => F a ++ encX F l
theorem encX_length {F : α → List S} {n : Nat} (hF : ∀ a, (F a).length = n) : ∀ L : List α, (encX F L).length = L.length * n
  | [] => by simp [encX]
  | a :: r => by simp only [encX, List.length_append, hF, encX_length hF r, List.length_cons, Nat.succ_mul]; omega
theorem encX_append (F : α → List S) : ∀ A B : List α, encX F (A ++ B) = encX F A ++ encX F B
  | [], B => rfl
  | a :: r, B => by simp only [List.cons_append, encX, encX_append F r B, List.append_assoc]
theorem encX_seg {F : α → List S} {n : Nat} (hF : ∀ a, (F a).length = n) : ∀ {L : List α} {k : Nat} {a : α}, L[k]? = some a → ((encX F L).drop (k * n)).take n = F a
  | [], k, a, h => by simp at h
  | b :: r, 0, a, h => by
    simp only [List.getElem?_cons_zero, Option.some.injEq] at h
    subst h
    rw [Nat.zero_mul, List.drop_zero, encX, List.take_append_of_le_length (by rw [hF]; exact Nat.le_refl _), List.take_of_length_le (by rw [hF]; exact Nat.le_refl _)]
  | b :: r, k + 1, a, h => by
    have ih := encX_seg hF (L := r) (k := k) (a := a) (by simpa using h)
    rw [encX, show (k + 1) * n = (F b).length + k * n by rw [hF, Nat.succ_mul]; omega, List.drop_append]
    rw [List.drop_eq_nil_of_le (by omega), List.nil_append, show (F b).length + k * n - (F b).length = k * n by omega]
    exact ih
theorem encX_at {F : α → List S} {n : Nat} (hF : ∀ a, (F a).length = n) {L : List α} {k j : Nat} {a : α} (h : L[k]? = some a) (hj : j < n) : (encX F L)[k * n + j]? = (F a)[j]? := by
  rw [← encX_seg hF h, List.getElem?_take_of_lt hj, List.getElem?_drop]
theorem loadC_seg {cs xs : List S} {k n : Nat} (h : (cs.drop k).take n = xs) (hl : k + n ≤ cs.length) : loadC n true cs k = some (.a (.d (.agg xs))) := by
  simp only [loadC, ofCells, av, if_true]
  rw [if_pos hl, h]
theorem ldX {F : α → List S} {n : Nat} (hF : ∀ a, (F a).length = n) {L : List α} {k : Nat} {a : α} (h : L[k]? = some a) : loadC n true (encX F L) (k * n) = some (.a (.d (.agg (F a)))) :=
  loadC_seg (encX_seg hF h) (by
    rw [encX_length hF]
    have := (List.getElem?_eq_some_iff.1 h).1
    have := Nat.mul_le_mul_right n (show k + 1 ≤ L.length by omega)
    rw [Nat.succ_mul] at this
    exact this)
theorem apX_dl {F : α → List S} {n : Nat} (hF : ∀ a, (F a).length = n) {σ : St} {d : Option Nat} {p : Nat} {a b : Opd} {l : List α} {x : α} (ha : ev σ.env a = .a (.sl p 0 l.length n)) (ho : σ.objs p = some (.flat false (encX F l))) (hb : elems σ.objs n (ev σ.env b) = some (1, F x)) (h2 : l.length ≤ 1000000) (hn : n ≤ 10) {Γ : Nat → Option Fn} {call : Calls} :
    delta Γ call d σ (.app n a b) = some ⟨.a (.sl p 0 (l ++ [x]).length n), [p], [(p, .flat false (encX F (l ++ [x])))]⟩ := by
  have hl := encX_length hF l
  have h3 : (l.length + 1) * (n + 1) ≤ (l.length + 1) * 11 := Nat.mul_le_mul_left _ (by omega)
  simp only [delta, append, ha, hb, ho]
  rw [if_pos ⟨trivial, by omega, by simp only [big]; omega⟩, encX_append, List.length_append, List.drop_zero, List.take_of_length_le (by omega)]
  simp only [encX, List.append_nil, List.length_cons, List.length_nil]
end
abbrev Run := Cel × Int
def runC (r : Run) : List S := [.int .i8 r.1.1, .int .i8 r.1.2, .int .i8 r.2]
theorem runC_len (r : Run) : (runC r).length = 3 := rfl
abbrev gRn (l : List Run) (k : Nat) : Run := l.getD k ((0, 0), 0)
theorem gRn_get {l : List Run} {k : Nat} (h : k < l.length) : l[k]? = some (gRn l k) := by
  simp [gRn, List.getD_eq_getElem?_getD, h]
abbrev Mw := Cel × Nat
def mowC (x : Mw) : List S := [.int .i8 x.1.1, .int .i8 x.1.2, .int .u8 0, .int .i64 (x.2 : Nat)]
theorem mowC_len (r : Mw) : (mowC r).length = 4 := rfl
abbrev Stt := Mw × List UInt8
def sttC (x : Stt) : List S := [.int .i8 x.1.1.1, .int .i8 x.1.1.2, .int .i64 (x.1.2 : Nat), .str x.2]
theorem sttC_len (r : Stt) : (sttC r).length = 4 := rfl
abbrev gQ (l : List Stt) (k : Nat) : Stt := l.getD k (((0, 0), 0), [])
theorem gQ_get {l : List Stt} {k : Nat} (h : k < l.length) : l[k]? = some (gQ l k) := by
  simp [gQ, List.getD_eq_getElem?_getD, h]
section
variable {Γ : Nat → Option Fn} {dsts : Nat → Option Nat} {ops : List Oper} {P : St → Prop} {σ : St} {d : Option Nat} {g : Option (Nat × Bool)} {l1 l2 l3 l4 : List Nat}
theorem ldRb {l : List Run} {k : Nat} (h : k < l.length) : loadC 3 true (encX runC l) (k * 3) = some (.a (.d (.agg [.int .i8 (gRn l k).1.1, .int .i8 (gRn l k).1.2, .int .i8 (gRn l k).2]))) := ldX runC_len (gRn_get h)
theorem ldRc {l : List Run} {k : Nat} (h : k < l.length) : loadC 1 false (encX runC l) (0 + k * 3 + 2) = some (.a (.d (.s (.int .i8 (gRn l k).2)))) :=
  loadC_one (by rw [Nat.zero_add, encX_at runC_len (gRn_get h) (by decide)]; rfl)
theorem ldQ {l : List Stt} {k : Nat} (h : k < l.length) : loadC 4 true (encX sttC l) (0 + k * 4) = some (.a (.d (.agg [.int .i8 (gQ l k).1.1.1, .int .i8 (gQ l k).1.1.2, .int .i64 ((gQ l k).1.2 : Nat), .str (gQ l k).2]))) := by
  rw [Nat.zero_add]; exact ldX sttC_len (gQ_get h)
theorem elems_T {e : Nat} {x y n : Int} {b : Opd} (hb : ev σ.env b = .a (.sl e 0 1 3)) (ho : σ.objs e = some (.flat false [.int .i8 x, .int .i8 y, .int .i8 n])) : elems σ.objs 3 (ev σ.env b) = some (1, runC ((x, y), n)) := by
  simp [elems, hb, ho, runC]
theorem WR.apRn {p e : Nat} {a b : Opd} {l : List Run} {x y n : Int} (hw : wanted dsts σ.env g = some true) (ha : ev σ.env a = .a (.sl p 0 l.length 3)) (ho : σ.objs p = some (.flat false (encX runC l))) (hb : ev σ.env b = .a (.sl e 0 1 3)) (hbo : σ.objs e = some (.flat false [.int .i8 x, .int .i8 y, .int .i8 n])) (h2 : l.length ≤ 1000000)
    (k : WR Γ dsts ops P (set d (.a (.sl p 0 (l ++ [((x, y), n)]).length 3)) (put p (.flat false (encX runC (l ++ [((x, y), n)]))) (kill [p] σ)))) : WR Γ dsts (⟨d, .app 3 a b, g, l1, l2, l3, l4⟩ :: ops) P σ :=
  WR.cons ⟨0, step_dl hw (apX_dl runC_len ha ho (elems_T hb hbo) h2 (by decide)) (by rw [noPar_one]; intro cs e; rw [ho] at e; cases e)⟩ k
theorem WR.bT0 {e : Nat} (hw : wanted dsts σ.env g = some true) (hp : noPar σ [e] = true) (k : WR Γ dsts ops P (set (some e) (.a (.sl e 0 0 3)) (put e (.flat false (encX runC [])) (kill [e] σ)))) : WR Γ dsts (⟨some e, .bsl 3 0 [.int .i8 0, .int .i8 0, .int .i8 0] [], g, l1, l2, l3, l4⟩ :: ops) P σ :=
  WR.mk (d := e) (ob := .flat false (encX runC [])) hw rfl rfl (by simp [makes, all?, cellsOf, fill, replicate, List.replicate, encX]) hp k
theorem WR.bT1 {e : Nat} {a0 : Opd} {x y n : Int} (hw : wanted dsts σ.env g = some true) (h0 : ev σ.env a0 = .a (.d (.agg [.int .i8 x, .int .i8 y, .int .i8 n]))) (hp : noPar σ [e] = true) (k : WR Γ dsts ops P (set (some e) (.a (.sl e 0 1 3)) (put e (.flat false [.int .i8 x, .int .i8 y, .int .i8 n]) (kill [e] σ)))) : WR Γ dsts (⟨some e, .bsl 3 1 [.int .i8 0, .int .i8 0, .int .i8 0] [(0, a0)], g, l1, l2, l3, l4⟩ :: ops) P σ :=
  WR.mk (d := e) (ob := .flat false [.int .i8 x, .int .i8 y, .int .i8 n]) hw rfl rfl (by simp [makes, all?, h0, cellsOf, fill, replicate, List.replicate]) hp k
theorem WR.bTn {a b : Opd} {x y n : Int} (hw : wanted dsts σ.env g = some true) (ha : ev σ.env a = .a (.d (.agg [.int .i8 x, .int .i8 y]))) (hb : ev σ.env b = .a (.d (.s (.int .i8 n)))) (k : WR Γ dsts ops P (set d (.a (.d (.agg [.int .i8 x, .int .i8 y, .int .i8 n]))) σ)) : WR Γ dsts (⟨d, .build [.int .i8 0, .int .i8 0, .int .i8 0] [(0, 2, a), (2, 1, b)], g, l1, l2, l3, l4⟩ :: ops) P σ :=
  WR.q hw (by simp [quiet, all?, ha, hb, cellsOf, fill, av]) k
theorem WR.bTz {a : Opd} {x y : Int} (hw : wanted dsts σ.env g = some true) (ha : ev σ.env a = .a (.d (.agg [.int .i8 x, .int .i8 y]))) (k : WR Γ dsts ops P (set d (.a (.d (.agg [.int .i8 x, .int .i8 y, .int .i8 0]))) σ)) : WR Γ dsts (⟨d, .build [.int .i8 0, .int .i8 0, .int .i8 0] [(0, 2, a)], g, l1, l2, l3, l4⟩ :: ops) P σ :=
  WR.q hw (by simp [quiet, all?, ha, cellsOf, fill, av]) k
theorem WR.ng {k : IntKind} {a : Opd} {n : Int} (hw : wanted dsts σ.env g = some true) (ha : ev σ.env a = .a (.d (.s (.int k n)))) (hf : k.wrap (0 - n) = 0 - n)
    (K : WR Γ dsts ops P (set d (.a (.d (.s (.int k (0 - n))))) σ)) : WR Γ dsts (⟨d, .un .neg a, g, l1, l2, l3, l4⟩ :: ops) P σ :=
  WR.q hw (by simp only [quiet, unop, ha, sv, hf]) K
theorem WH.ng {k : IntKind} {a : Opd} {n : Int} (hw : wanted dsts (kill l1 (only l3 σ)).env g = some true) (ha : ev (kill l1 (only l3 σ)).env a = .a (.d (.s (.int k n)))) (hf : k.wrap (0 - n) = 0 - n)
    (K : WH Γ dsts ops P (set d (.a (.d (.s (.int k (0 - n))))) σ)) : WH Γ dsts (⟨d, .un .neg a, g, l1, l2, l3, l4⟩ :: ops) P σ :=
  WH.q hw (by simp only [veil, quiet, unop, ha, sv, hf]) rfl K
end
end Go.DM

/- Runs of grass have each cell once: plain facts (for FnTop). -/
set_option maxHeartbeats 4000000
namespace Go.DM
variable [Tok]
open Go.IntWalk
variable {w h : Int} {g : Nat → Int} {cs : List S}
def runF (w h : Int) (g : Nat → Int) (y : Int) : Nat → Int → Nat
  | 0, _ => 0
  | f + 1, x => if Is w h g 0 x y then runF w h g y f (x + 1) + 1 else 0
def runAt (w h : Int) (g : Nat → Int) (c : Cel) : Nat := runF w h g c.2 (w - c.1).toNat c.1
theorem runAt_step {x y : Int} (hx : x < w) : runAt w h g (x, y) = if Is w h g 0 x y then runAt w h g (x + 1, y) + 1 else 0 := by
  unfold runAt
  simp only
  rw [show (w - x).toNat = (w - (x + 1)).toNat + 1 by omega, runF]
theorem runAt_end {y : Int} : runAt w h g (w, y) = 0 := by
  unfold runAt
  simp only
  rw [show (w - w).toNat = 0 by omega, runF]
def RunBeg (w h : Int) (g : Nat → Int) (c : Cel) : Prop := Is w h g 0 c.1 c.2 ∧ ¬ Is w h g 0 (c.1 - 1) c.2
instance (w h : Int) (g : Nat → Int) : DecidablePred (RunBeg w h g) := fun c => inferInstanceAs (Decidable (_ ∧ _))
def begL (w h : Int) (g : Nat → Int) (c : Cel) : Int := if RunBeg w h g c then (runAt w h g c : Int) else 0
def isOne (w h : Int) (g : Nat → Int) (c : Cel) : Int := if Is w h g 0 c.1 c.2 then 1 else 0
def sumF (F : Cel → Int) : List Cel → Int
  | [] => 0
  | c :: r => F c + sumF F r
theorem sumF_app (F : Cel → Int) : ∀ A B : List Cel, sumF F (A ++ B) = sumF F A + sumF F B
  | [], B => by simp [sumF]
  | a :: r, B => by simp only [List.cons_append, sumF, sumF_app F r B]; omega
def rowS (F : Cel → Int) (y : Nat) : Nat → Int
  | 0 => 0
  | x + 1 => rowS F y x + F ((x : Int), (y : Int))
theorem sumF_row (F : Cel → Int) (W y : Nat) : ∀ x, x ≤ W → sumF F (cellsTo W (y * W + x)) = sumF F (cellsTo W (y * W)) + rowS F y x
  | 0, _ => by simp [rowS]
  | x + 1, hx => by
    rw [cellsTo_succ (by omega), sumF_app, sumF_row F W y x (by omega)]
    simp only [sumF, rowS]
    omega
def allS (F : Cel → Int) (W : Nat) : Nat → Int
  | 0 => 0
  | y + 1 => allS F W y + rowS F y W
theorem sumF_all (F : Cel → Int) (W : Nat) : ∀ H, sumF F (cellsTo W (H * W)) = allS F W H
  | 0 => by simp [allS, cellsTo, sumF]
  | H + 1 => by
    rw [Nat.succ_mul, sumF_row F W H W (Nat.le_refl _), sumF_all F W H]; rfl
theorem row_runs (W : Nat) (y : Nat) : ∀ x : Nat, x ≤ W → rowS (begL (W : Int) h g) y x = rowS (isOne (W : Int) h g) y x + (if Is (W : Int) h g 0 ((x : Int) - 1) (y : Int) then (runAt (W : Int) h g ((x : Int), (y : Int)) : Int) else 0)
  | 0, _ => by
    have : ¬ Is (W : Int) h g 0 (((0 : Nat) : Int) - 1) (y : Int) := fun k => by have := k.1; omega
    rw [if_neg this]; rfl
  | x + 1, hx => by
    have ih := row_runs W y x (by omega)
    have hs := runAt_step (w := (W : Int)) (h := h) (g := g) (x := (x : Int)) (y := (y : Int)) (by omega)
    have e1 : (((x + 1 : Nat) : Int) - 1) = (x : Int) := by omega
    have e2 : (((x + 1 : Nat) : Int)) = (x : Int) + 1 := by omega
    rw [e1, e2]
    simp only [rowS, ih, begL, isOne, RunBeg]
    by_cases h1 : Is (W : Int) h g 0 (x : Int) (y : Int)
    · rw [if_pos h1] at hs
      by_cases h2 : Is (W : Int) h g 0 ((x : Int) - 1) (y : Int)
      · simp only [h1, h2, not_true, and_false, if_true, if_false]
        try omega
      · simp only [h1, h2, not_false_eq_true, and_self, if_true, if_false]
        try omega
    · rw [if_neg h1] at hs
      by_cases h2 : Is (W : Int) h g 0 ((x : Int) - 1) (y : Int)
      · simp only [h1, h2, false_and, if_true, if_false]
        try omega
      · simp only [h1, h2, false_and, if_false]
        try omega
theorem row_all (W y : Nat) : rowS (begL (W : Int) h g) y W = rowS (isOne (W : Int) h g) y W := by
  have := row_runs (h := h) (g := g) W y W (Nat.le_refl _)
  rw [runAt_end] at this
  rw [this]
  split <;> simp
theorem allS_runs (W : Nat) : ∀ H, allS (begL (W : Int) h g) W H = allS (isOne (W : Int) h g) W H
  | 0 => rfl
  | H + 1 => by simp only [allS, allS_runs W H, row_all]
theorem runs_sum (hs : 0 ≤ w ∧ 0 ≤ h) : sumF (begL w h g) (allC w h) = sumF (isOne w h g) (allC w h) := by
  obtain ⟨W, rfl⟩ : ∃ n : Nat, w = n := ⟨w.toNat, by omega⟩
  obtain ⟨H, rfl⟩ : ∃ n : Nat, h = n := ⟨h.toNat, by omega⟩
  unfold allC
  rw [Int.toNat_natCast, Int.toNat_natCast, Nat.mul_comm, sumF_all, sumF_all, allS_runs]
theorem sumF_filter (F : Cel → Int) (P : Cel → Prop) [DecidablePred P] : ∀ L : List Cel, sumF F (L.filter fun c => decide (P c)) = sumF (fun c => if P c then F c else 0) L
  | [] => rfl
  | c :: L => by
    rw [List.filter_cons]
    by_cases hc : P c
    · simp only [hc, decide_true, if_true, sumF, sumF_filter F P L]
    · simp only [hc, decide_false, Bool.false_eq_true, if_false, sumF, sumF_filter F P L]; omega
theorem sumF_one : ∀ L : List Cel, sumF (fun _ => 1) L = L.length
  | [] => rfl
  | c :: L => by simp only [sumF, sumF_one L, List.length_cons]; omega
end Go.DM
