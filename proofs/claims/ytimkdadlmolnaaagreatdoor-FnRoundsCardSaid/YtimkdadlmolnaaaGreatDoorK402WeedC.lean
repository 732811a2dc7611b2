/- Weeds: counted, a day later, cut: both sides. -/
import Derived.Test.YtimkdadlmolnaaaGreatDoorK402Ints
import Derived.Test.YtimkdadlmolnaaaGreatDoorK402Near
import Derived.Test.YtimkdadlmolnaaaGreatDoorK402Beside
set_option linter.unusedSectionVars false
set_option linter.unusedSimpArgs false
set_option linter.unusedVariables false
set_option maxHeartbeats 4000000
namespace Go.DM
variable [Tok]
open Go.IntWalk
variable {w h : Int} {g : Nat → Int} {cs : List S}
def pop8 : List UInt8 := [0, 1, 1, 2, 1, 2, 2, 3, 1, 2, 2, 3, 2, 3, 3, 4, 1, 2, 2, 3, 2, 3, 3, 4, 2, 3, 3, 4, 3, 4, 4, 5, 1, 2, 2, 3, 2, 3, 3, 4, 2, 3, 3, 4, 3, 4, 4, 5, 2, 3, 3, 4, 3, 4, 4, 5, 3, 4, 4, 5, 4, 5, 5, 6, 1, 2, 2, 3, 2, 3, 3, 4, 2, 3, 3, 4, 3, 4, 4, 5, 2, 3, 3, 4, 3, 4, 4, 5, 3, 4, 4, 5, 4, 5, 5, 6, 2, 3, 3, 4, 3, 4, 4, 5, 3, 4, 4, 5, 4, 5, 5, 6, 3, 4, 4, 5, 4, 5, 5, 6, 4, 5, 5, 6, 5, 6, 6, 7, 1, 2, 2, 3, 2, 3, 3, 4, 2, 3, 3, 4, 3, 4, 4, 5, 2, 3, 3, 4, 3, 4, 4, 5, 3, 4, 4, 5, 4, 5, 5, 6, 2, 3, 3, 4, 3, 4, 4, 5, 3, 4, 4, 5, 4, 5, 5, 6, 3, 4, 4, 5, 4, 5, 5, 6, 4, 5, 5, 6, 5, 6, 6, 7, 2, 3, 3, 4, 3, 4, 4, 5, 3, 4, 4, 5, 4, 5, 5, 6, 3, 4, 4, 5, 4, 5, 5, 6, 4, 5, 5, 6, 5, 6, 6, 7, 3, 4, 4, 5, 4, 5, 5, 6, 4, 5, 5, 6, 5, 6, 6, 7, 4, 5, 5, 6, 5, 6, 6, 7, 5, 6, 6, 7, 6, 7, 7, 8]
def bcK (n : Nat) : Nat → Nat
  | 0 => 0
  | x + 1 => bcK n x + (n / 2 ^ x) % 2
theorem bcN_cast (n : Nat) : ∀ x, bcN (n : Nat) x = ((bcK n x : Nat) : Int)
  | 0 => rfl
  | x + 1 => by
    simp only [bcN, bcK, bcN_cast n x]
    push_cast
    rfl
theorem pop8_map : pop8.map (fun b => b.toNat) = (List.range 256).map (fun k => bcK k 8) := by decide +kernel
theorem pop8_len : pop8.length = 256 := by
  have := congrArg List.length pop8_map
  rw [List.length_map, List.length_map, List.length_range] at this
  exact this
theorem pop8_at (k : Nat) (hk : k < 256) : gB pop8 k = bcN (k : Nat) 8 := by
  have h1 : (pop8.map (fun b => b.toNat))[k]? = some (bcK k 8) := by rw [pop8_map, List.getElem?_map, List.getElem?_range hk]; rfl
  rw [List.getElem?_map] at h1
  obtain ⟨b, h2, h3⟩ := Option.map_eq_some_iff.1 h1
  rw [bcN_cast, gB, List.getD_eq_getElem?_getD, h2, Option.getD_some, h3]
theorem bcN_low (n : Int) : ∀ x : Nat, x ≤ 8 → bcN (n % 256) x = bcN n x
  | 0, _ => rfl
  | x + 1, hx => by
    rw [bcN, bcN, bcN_low n x (by omega)]
    congr 1
    obtain rfl | rfl | rfl | rfl | rfl | rfl | rfl | rfl : x = 0 ∨ x = 1 ∨ x = 2 ∨ x = 3 ∨ x = 4 ∨ x = 5 ∨ x = 6 ∨ x = 7 := by omega
    all_goals omega
theorem bcN_high (n : Int) : ∀ x : Nat, x ≤ 8 → bcN n (8 + x) = bcN n 8 + bcN (n / 256) x
  | 0, _ => by simp [bcN]
  | x + 1, hx => by
    rw [show 8 + (x + 1) = (8 + x) + 1 by omega, bcN, bcN_high n x (by omega), show bcN (n / 256) (x + 1) = bcN (n / 256) x + (n / 256 / 2 ^ x) % 2 from rfl, Int.add_assoc]
    congr 2
    obtain rfl | rfl | rfl | rfl | rfl | rfl | rfl | rfl : x = 0 ∨ x = 1 ∨ x = 2 ∨ x = 3 ∨ x = 4 ∨ x = 5 ∨ x = 6 ∨ x = 7 := by omega
    all_goals omega
theorem bcN_16 {n : Int} (hn : 0 ≤ n ∧ n < 65536) : bcN n 16 = bcN (n / 256) 8 + bcN (n % 256) 8 := by
  rw [bcN_low n 8 (Nat.le_refl _), Int.add_comm]
  exact bcN_high n 8 (Nat.le_refl _)
section
variable {Γ : Nat → Option Fn} {dsts : Nat → Option Nat} {ops : List Oper} {Q : St → Prop} {σ : St} {d : Option Nat} {gd : Option (Nat × Bool)} {l1 l2 l3 l4 : List Nat}
theorem and255 {n : Int} (hn : 0 ≤ n ∧ n < 65536) : IntKind.u16.wrap ((BitVec.ofInt IntKind.u16.bits n &&& BitVec.ofInt IntKind.u16.bits 255).toNat : Nat) = n % 256 := by
  have h1 : (BitVec.ofInt IntKind.u16.bits n &&& BitVec.ofInt IntKind.u16.bits 255).toNat < 2 ^ 16 := BitVec.isLt _
  rw [wrap16 (by omega), BitVec.toNat_and, ofInt16 hn, ofInt16 ⟨by decide, by decide⟩]
  obtain ⟨m, rfl⟩ : ∃ m : Nat, n = m := ⟨n.toNat, by omega⟩
  rw [Int.toNat_natCast, show Int.toNat 255 = 2 ^ 8 - 1 from rfl, Nat.and_two_pow_sub_one_eq_mod]
  show ((m % 256 : Nat) : Int) = (m : Int) % 256
  omega
theorem WH.b255 {a b : Opd} {n : Int} (hw : wanted dsts (kill l1 (only l3 σ)).env gd = some true) (ha : ev (kill l1 (only l3 σ)).env a = .a (.d (.s (.int .u16 n)))) (hb : ev (kill l1 (only l3 σ)).env b = .a (.d (.s (.int .u16 255)))) (hn : 0 ≤ n ∧ n < 65536)
    (K : WH Γ dsts ops Q (set d (.a (.d (.s (.int .u16 (n % 256))))) σ)) : WH Γ dsts (⟨d, .bin .and a b, gd, l1, l2, l3, l4⟩ :: ops) Q σ :=
  WH.q hw (by simp only [veil, quiet, ha, hb, bin, isShift, intBin]; rw [and255 hn]; rfl) rfl K
end
theorem ones_gives (n : Int) (hn : 0 ≤ n ∧ n < 65536) : Gives G 438 [ai .u16 n] (ri .i64 (bcN n 16)) := by
  have e8 : n / 2 ^ Int.toNat 8 = n / 256 := rfl
  have h1 : 0 ≤ n / 2 ^ Int.toNat 8 ∧ n / 2 ^ Int.toNat 8 < pop8.length := by rw [e8, pop8_len]; omega
  have h2 : 0 ≤ n % 256 ∧ n % 256 < pop8.length := by rw [pop8_len]; omega
  have p1 : gB pop8 (n / 2 ^ Int.toNat 8).toNat = bcN (n / 256) 8 := by
    rw [e8, pop8_at _ (by omega), show (((n / 256).toNat : Nat) : Int) = n / 256 by omega]
  have p2 : gB pop8 (n % 256).toNat = bcN (n % 256) 8 := by
    rw [pop8_at _ (by omega), show (((n % 256).toNat : Nat) : Int) = n % 256 by omega]
  have b1 := bcN_b (n / 256) 8
  have b2 := bcN_b (n % 256) 8
  rw [← p1] at b1
  rw [← p2] at b2
  rw [bcN_16 hn, ← p1, ← p2]
  refine Gives.by rfl rfl (W.seq ?_)
  repeat' first | ((with_reducible apply WH.ist (s := pop8)); exact rfl; exact rfl; exact rfl; exact h1) | ((with_reducible apply WH.ist (s := pop8)); exact rfl; exact rfl; exact rfl; exact h2) | ((with_reducible apply WH.b255); exact rfl; exact rfl; exact rfl; exact hn) | ((with_reducible apply WR.nil)) | (with_reducible refine andThen_n ?_) | (with_reducible refine W.seq ?_) | (with_reducible refine W.region ?_) | (with_reducible refine W.ret ?_) | ((with_reducible apply Done.f); (intro hh hh2; exact (nomatch hh2)); (focus ((repeat' first | exact all_nil | apply all_cons | exact res_tmp rfl); done)); (focus ((repeat' first | exact all_nil | apply all_cons | exact retOf_s rfl); done)); exact rfl; (focus ((repeat' first | exact outs_nil | apply outs_d); done))) | ((with_reducible apply WH.mv); exact rfl; exact rfl; exact rfl) | ((with_reducible apply WH.nil)) | (with_reducible refine W.draw ?_) | ((with_reducible apply WR.mv); exact rfl; exact rfl) | ((with_reducible apply WH.bsr); exact rfl; exact rfl; exact rfl; omega) | ((with_reducible apply WH.cv); exact rfl; exact rfl; (first | exact i64_in _ (by omega) | exact u8_in _ (by omega))) | ((with_reducible apply WH.ad); exact rfl; exact rfl; exact rfl; (first | exact i64_in _ (by omega) | exact u8_in _ (by omega)))
  rfl
theorem count_gives (q : Nat → Int) (hq : WB q) : Gives G 350 [aa (wR q)] (ri .i64 (cntQ q)) := by
  refine Gives.by rfl rfl (W.seq ?_)
  repeat' first | ((with_reducible apply WR.mv); exact rfl; exact rfl) | ((with_reducible apply WR.nil)) | (with_reducible refine andThen_n ?_) | (with_reducible refine W.seq ?_) | (with_reducible refine W.region ?_) | (with_reducible refine W.block ?_) | ((with_reducible apply WR.bx); exact rfl; exact rfl; exact (by first | exact rowI_len | exact rfl); (exact rfl)) | ((with_reducible apply WR.ld); exact rfl; exact rfl; exact rfl; (first | exact loadC_all rowI_len))
  (refine (?_ : W _ (Code.loop _) _ _))
  (refine W.loopM [6] [] [] (fun zz : (Nat) × (Int) => match zz with | (i, n) => (10 - i : Nat)) (fun zz : (Nat) × (Int) => match zz with | (i, n) => (i ≤ 10 ∧ n = cntN q i : Prop)) (fun zz : (Nat) × (Int) => match zz with | (i, n) => [(3, .a (.d (.s (.int .i64 n)))), (7, .a (.d (.s (.int .i64 (i : Nat)))))]) (fun zz : (Nat) × (Int) => match zz with | (i, n) => []) (0, 0) (⟨by omega, rfl⟩) ⟨rfl, rfl, trivial⟩ trivial trivial ?_)
  rintro ⟨i, n⟩ σ hP hN; dsimp only [setL, putL] at hP ⊢
  obtain ⟨hi, hn⟩ := hP
  by_cases hil : i < 10
  · have hc := ones_gives (q i) (hq i hil)
    have b1 := cntN_b q i
    have b2 := bcN_b (q i) 16
    repeat' first | ((with_reducible apply WR.c_s (f := 438) (fn := Code.f438)); exact rfl; exact rfl; exact rfl; (exact rfl); (focus ((repeat' first | exact args_nil | apply args_d | exact toD_d rfl | exact rfl); done)); exact hc) | ((with_reducible apply WR.mv); exact rfl; exact rfl) | ((with_reducible apply WR.nil)) | (with_reducible refine andThen_n ?_) | (with_reducible refine inB_n ?_) | (with_reducible refine W.seq ?_) | (with_reducible refine W.region ?_) | (with_reducible refine W.skip ?_) | (with_reducible refine W.block ?_) | ((with_reducible apply W.condT); exact rfl) | (intro hb; try (exfalso; omega)) | ((with_reducible apply WR.ad); exact rfl; exact rfl; exact rfl; (first | exact i64_in _ (by omega))) | ((with_reducible apply WR.lss); exact rfl; exact rfl; exact rfl) | ((with_reducible apply WR.ga); exact rfl; exact rfl; exact rfl; omega; (first | exact ldRd (by omega)))
    (refine W.nxt (i + 1, n + bcN (q i) 16) (by first | omega | (dsimp only; omega)) ?_ ⟨rfl, rfl, trivial⟩ trivial ⟨rfl, trivial⟩ trivial trivial); (try dsimp only)
    exact ⟨by omega, by rw [hn]; rfl⟩
  · obtain rfl : i = 10 := by omega
    repeat' first | ((with_reducible apply WR.mv); exact rfl; exact rfl) | ((with_reducible apply WR.nil)) | (with_reducible refine andThen_n ?_) | (with_reducible refine andThen_x ?_) | (with_reducible refine inB_x ?_) | (with_reducible refine W.seq ?_) | (with_reducible refine W.region ?_) | (with_reducible refine W.ret ?_) | (with_reducible refine W.exit ?_) | ((with_reducible apply W.condF); exact rfl) | ((with_reducible apply Done.f); (intro hh hh2; exact (nomatch hh2)); (focus ((repeat' first | exact all_nil | apply all_cons | exact res_tmp rfl); done)); (focus ((repeat' first | exact all_nil | apply all_cons | exact retOf_s rfl); done)); exact rfl; (focus ((repeat' first | exact outs_nil | apply outs_d); done))) | (intro hb; try (exfalso; omega)) | ((with_reducible apply WR.lss); exact rfl; exact rfl; exact rfl)
    rw [hn]; rfl
theorem l07Count_gives (q : Nat → Int) (hq : WB q) : Gives G 429 [ar (wR q)] (ri .i64 (cntQ q)) := by
  refine Gives.by rfl rfl (W.seq ?_)
  repeat' first | ((with_reducible apply WR.mv); exact rfl; exact rfl) | ((with_reducible apply WR.nil)) | (with_reducible refine andThen_n ?_) | (with_reducible refine W.seq ?_) | (with_reducible refine W.region ?_) | (with_reducible refine W.block ?_)
  (refine (?_ : W _ (Code.loop _) _ _))
  (refine W.loopM [0] [] [] (fun zz : (Nat) × (Int) => match zz with | (i, n) => (10 - i : Nat)) (fun zz : (Nat) × (Int) => match zz with | (i, n) => (i ≤ 10 ∧ n = cntN q i : Prop)) (fun zz : (Nat) × (Int) => match zz with | (i, n) => [(3, .a (.d (.s (.int .i64 n)))), (4, .a (.d (.s (.int .i64 (i : Nat)))))]) (fun zz : (Nat) × (Int) => match zz with | (i, n) => []) (0, 0) (⟨by omega, rfl⟩) ⟨rfl, rfl, trivial⟩ trivial trivial ?_)
  rintro ⟨i, n⟩ σ hP hN; dsimp only [setL, putL] at hP ⊢
  obtain ⟨hi, hn⟩ := hP
  by_cases hil : i < 10
  · have b1 := cntN_b q i
    have hqi := hq i hil
    repeat' first | ((with_reducible apply WR.mv); exact rfl; exact rfl) | ((with_reducible apply WR.nil)) | (with_reducible refine andThen_n ?_) | (with_reducible refine W.seq ?_) | (with_reducible refine W.region ?_) | (with_reducible refine W.skip ?_) | (with_reducible refine W.block ?_) | ((with_reducible apply W.condT); exact rfl) | (intro hb; try (exfalso; omega)) | ((with_reducible apply WR.lss); exact rfl; exact rfl; exact rfl)
    (refine (?_ : W _ (Code.loop _) _ _))
    (refine W.loopM [0, 4] [] [] (fun zz : (Nat) × (Int) => match zz with | (x, m) => (16 - x : Nat)) (fun zz : (Nat) × (Int) => match zz with | (x, m) => (x ≤ 16 ∧ m = cntN q i + bcN (q i) x : Prop)) (fun zz : (Nat) × (Int) => match zz with | (x, m) => [(3, .a (.d (.s (.int .i64 m)))), (5, .a (.d (.s (.int .i64 (x : Nat)))))]) (fun zz : (Nat) × (Int) => match zz with | (x, m) => []) (0, n) (⟨by omega, by rw [hn]; simp [bcN]⟩) ⟨rfl, rfl, trivial⟩ trivial trivial ?_)
    rintro ⟨x, m⟩ σ hP hN; dsimp only [setL, putL] at hP ⊢
    obtain ⟨hx, hm⟩ := hP
    by_cases hxl : x < 16
    · have b2 := bcN_b (q i) x
      have hd : 0 ≤ q ((i : Nat) : Int).toNat / 2 ^ ((x : Nat) : Int).toNat ∧ q ((i : Nat) : Int).toNat / 2 ^ ((x : Nat) : Int).toNat < 65536 := div_b hqi x
      repeat' first | ((with_reducible apply WR.mv); exact rfl; exact rfl) | ((with_reducible apply WR.ad); exact rfl; exact rfl; exact rfl; (first | exact i64_in _ (by omega) | exact u64_in _ (by omega))) | ((with_reducible apply WR.nil)) | (with_reducible refine andThen_n ?_) | (with_reducible refine inB_n ?_) | (with_reducible refine W.seq ?_) | (with_reducible refine W.region ?_) | (with_reducible refine W.skip ?_) | (with_reducible refine W.block ?_) | ((with_reducible apply W.condT); exact rfl) | (intro hb; try (exfalso; omega)) | ((with_reducible apply WR.lss); exact rfl; exact rfl; exact rfl) | ((with_reducible apply WR.cv); exact rfl; exact rfl; (first | exact i64_in _ (by omega) | exact u64_in _ (by omega))) | ((with_reducible apply WR.bsr); exact rfl; exact rfl; exact rfl; omega) | ((with_reducible apply WR.remp); exact rfl; exact rfl; exact rfl; omega) | ((with_reducible apply WR.ldd); exact rfl; exact rfl; (first | exact ldR (by omega))) | ((with_reducible apply WR.iar); exact rfl; exact rfl; exact rfl; omega) | ((with_reducible apply WR.nc); exact rfl; exact rfl)
      (refine W.nxt (x + 1, m + (q i / 2 ^ x) % 2) (by first | omega | (dsimp only; omega)) ?_ ⟨rfl, rfl, trivial⟩ trivial ⟨rfl, rfl, trivial⟩ trivial trivial); (try dsimp only)
      exact ⟨by omega, by rw [hm, bcN, Int.add_assoc]⟩
    · obtain rfl : x = 16 := by omega
      repeat' first | ((with_reducible apply WR.mv); exact rfl; exact rfl) | ((with_reducible apply WR.ad); exact rfl; exact rfl; exact rfl; (first | exact i64_in _ (by omega))) | ((with_reducible apply WR.nil)) | (with_reducible refine andThen_n ?_) | (with_reducible refine andThen_x ?_) | (with_reducible refine inB_n ?_) | (with_reducible refine inB_x ?_) | (with_reducible refine W.seq ?_) | (with_reducible refine W.region ?_) | (with_reducible refine W.exit ?_) | ((with_reducible apply W.condF); exact rfl) | (intro hb; try (exfalso; omega)) | ((with_reducible apply WR.lss); exact rfl; exact rfl; exact rfl)
      (refine W.nxt (i + 1, m) (by first | omega | (dsimp only; omega)) ?_ ⟨rfl, rfl, trivial⟩ trivial ⟨rfl, trivial⟩ trivial trivial); (try dsimp only)
      exact ⟨by omega, by rw [hm]; rfl⟩
  · obtain rfl : i = 10 := by omega
    repeat' first | ((with_reducible apply WR.mv); exact rfl; exact rfl) | ((with_reducible apply WR.nil)) | (with_reducible refine andThen_n ?_) | (with_reducible refine andThen_x ?_) | (with_reducible refine inB_x ?_) | (with_reducible refine W.seq ?_) | (with_reducible refine W.region ?_) | (with_reducible refine W.ret ?_) | (with_reducible refine W.exit ?_) | ((with_reducible apply W.condF); exact rfl) | ((with_reducible apply Done.f); (intro hh hh2; exact (nomatch hh2)); (focus ((repeat' first | exact all_nil | apply all_cons | exact res_tmp rfl); done)); (focus ((repeat' first | exact all_nil | apply all_cons | exact retOf_s rfl); done)); exact rfl; (focus ((repeat' first | exact outs_nil | apply outs_d); done))) | (intro hb; try (exfalso; omega)) | ((with_reducible apply WR.lss); exact rfl; exact rfl; exact rfl)
    rw [hn]; rfl
theorem putG_gives (q : Nat → Int) (x y : Int) (hb : 0 ≤ x ∧ x < 16 ∧ 0 ≤ y ∧ y < 10) : Gives G 302 [aa (wR q), ac x y] ⟨[.agg (wR (gset q y.toNat (orB (q y.toNat) (2 ^ x.toNat))))], []⟩ := by
  refine Gives.by rfl rfl (W.seq ?_)
  repeat' first | ((with_reducible apply WH.orb); exact rfl; exact rfl; exact rfl) | ((with_reducible apply WR.nil)) | (with_reducible refine andThen_n ?_) | (with_reducible refine W.seq ?_) | (with_reducible refine W.region ?_) | (with_reducible refine W.ret ?_) | ((with_reducible apply Done.f); (intro hh hh2; exact (nomatch hh2)); (focus ((repeat' first | exact all_nil | apply all_cons | exact res_cell rfl rfl (by first | exact List.length_replicate .. | exact rowI_len | exact rfl) | exact rfl); done)); (focus ((repeat' first | exact all_nil | apply all_cons | exact retOf_a rfl | exact rfl); done)); exact rfl; (focus ((repeat' first | exact outs_nil | apply outs_d | exact rfl); done))) | ((with_reducible apply WH.ld); exact rfl; exact rfl; exact rfl; (first | exact ldR (by omega) | exact loadC_all rowI_len); exact rfl) | ((with_reducible apply WH.lx); exact rfl; exact rfl; exact rfl) | ((with_reducible apply WH.nil)) | (with_reducible refine W.draw ?_) | ((with_reducible apply WR.bx); exact rfl; exact rfl; exact (by first | exact List.length_replicate .. | exact rowI_len | exact rfl); (exact rfl)) | ((with_reducible apply WH.ia); exact rfl; exact rfl; exact rfl; omega; exact rfl) | ((with_reducible apply WH.fa); exact rfl; exact rfl; exact rfl) | ((with_reducible apply WR.ld); exact rfl; exact rfl; exact rfl; (first | exact ldR (by omega) | exact loadC_all rowI_len)) | ((with_reducible apply WR.al); exact rfl; (exact rfl)) | ((with_reducible apply WR.st); exact rfl; exact rfl; exact rfl; exact storeAll (by first | exact List.length_replicate .. | exact rowI_len | exact rfl) (by first | exact List.length_replicate .. | exact rowI_len | exact rfl)) | ((with_reducible apply WH.b1s); exact rfl; exact rfl; exact rfl; omega) | ((with_reducible apply WH.st); exact rfl; exact rfl; exact rfl; exact stR (by omega); exact rfl; exact rfl)
  rfl
theorem rowBad_gives (l : IsLawn w h g cs) (n : Int) (hh : 1 ≤ h ∧ h ≤ 10) (hn : -9223372036854775808 ≤ n ∧ n ≤ 9223372036854775807) : Gives G 437 [ai .i64 n, ar cs] (rb (decide (¬ (0 ≤ n ∧ n ≤ h - 1)))) := by
  refine Gives.by rfl rfl (W.seq ?_)
  repeat' first | ((with_reducible apply WR.c_p (f := 56) (fn := Code.f56)); exact rfl; exact rfl; exact rfl; (exact rfl); (focus ((repeat' first | exact args_nil | apply args_d | exact toD_d rfl | exact all_nil | apply all_cons | exact rfl); done)); exact within_gives _ _ _) | ((with_reducible apply WR.mv); exact rfl; exact rfl) | ((with_reducible apply WR.nil)) | (with_reducible refine andThen_n ?_) | (with_reducible refine W.seq ?_) | (with_reducible refine W.region ?_) | (with_reducible refine W.ret ?_) | ((with_reducible apply Done.f); (intro hh hh2; exact (nomatch hh2)); (focus ((repeat' first | exact all_nil | apply all_cons | exact res_tmp rfl | exact rfl); done)); (focus ((repeat' first | exact all_nil | apply all_cons | exact retOf_s rfl | exact rfl); done)); exact rfl; (focus ((repeat' first | exact outs_nil | apply outs_d | exact rfl); done))) | (intro hb; try (exfalso; omega)) | ((with_reducible apply WR.cv); exact rfl; exact rfl; (first | exact i64_in _ (by omega))) | ((with_reducible apply WR.sb); exact rfl; exact rfl; exact rfl; (first | exact i64_in _ (by omega))) | ((with_reducible apply WR.ldd); exact rfl; exact rfl; (first | exact lawn_h (by assumption))) | ((with_reducible apply WR.un); exact rfl; exact rfl) | ((with_reducible apply WR.fa); exact rfl; exact rfl)
  all_goals first
    | exact rb_t (by omega)
    | exact rb_f (by omega)
theorem holds_bad (l : IsLawn w h g cs) (hh : 1 ≤ h ∧ h ≤ 10) : HoldsI G (.clo 437 [] [.ref cs]) (fun n => ¬ (0 ≤ n ∧ n ≤ h - 1)) (fun n => -9223372036854775808 ≤ n ∧ n ≤ 9223372036854775807) :=
  ⟨437, Code.f437, _, _, rfl, rfl, rfl, fun n hn => rowBad_gives l n hh hn⟩
theorem indexN_gives (x : D) : Gives G 440 [.d (.s .nils), .d x] (ri .i64 (-1)) := by
  refine Gives.by rfl rfl (W.seq ?_)
  repeat' first | (with_reducible refine W.loop ?_) | ((with_reducible apply WR.mv); exact rfl; exact rfl) | ((with_reducible apply WR.nil)) | (with_reducible refine andThen_n ?_) | (with_reducible refine andThen_x ?_) | (with_reducible refine inB_x ?_) | (with_reducible refine W.seq ?_) | (with_reducible refine W.region ?_) | (with_reducible refine W.ret ?_) | (with_reducible refine W.exit ?_) | (with_reducible refine W.block ?_) | ((with_reducible apply W.condF); exact rfl) | ((with_reducible apply Done.f); (intro hh hh2; exact (nomatch hh2)); (focus ((repeat' first | exact all_nil | apply all_cons | exact res_tmp rfl); done)); (focus ((repeat' first | exact all_nil | apply all_cons | exact retOf_s rfl); done)); exact rfl; (focus ((repeat' first | exact outs_nil | apply outs_d); done))) | (intro hb; try (exfalso; omega)) | ((with_reducible apply WR.lss); exact rfl; exact rfl; exact rfl) | ((with_reducible apply WR.le); exact rfl; exact rfl)
  all_goals rfl
theorem containsN_gives (x : D) : Gives G 436 [.d (.s .nils), .d x] (rb false) := by
  have hi := indexN_gives x
  refine Gives.by rfl rfl (W.seq ?_)
  repeat' first | ((with_reducible apply WR.c_s (f := 440) (fn := Code.f440)); exact rfl; exact rfl; exact rfl; (exact rfl); (focus ((repeat' first | exact args_nil | apply args_d | exact toD_d rfl | exact all_nil | apply all_cons | exact rfl); done)); exact hi) | ((with_reducible apply WR.mv); exact rfl; exact rfl) | ((with_reducible apply WR.nil)) | (with_reducible refine andThen_n ?_) | (with_reducible refine W.seq ?_) | (with_reducible refine W.region ?_) | (with_reducible refine W.ret ?_) | ((with_reducible apply Done.f); (intro hh hh2; exact (nomatch hh2)); (focus ((repeat' first | exact all_nil | apply all_cons | exact res_tmp rfl | exact rfl); done)); (focus ((repeat' first | exact all_nil | apply all_cons | exact retOf_s rfl | exact rfl); done)); exact rfl; (focus ((repeat' first | exact outs_nil | apply outs_d | exact rfl); done))) | (intro hb; try (exfalso; omega)) | ((with_reducible apply WR.geq); exact rfl; exact rfl; exact rfl)
  rfl
theorem indexL_gives {x : D} {P : Int → Prop} [DecidablePred P] {dom : Int → Prop} (hx : HoldsI G x P dom) (L : List Int) (hl : L.length ≤ 1000) (hd : ∀ n ∈ L, dom n) (hno : ∀ n ∈ L, ¬ P n) : Gives G 440 [.d (.sl L.length 1 (encI .i64 L)), .d x] (ri .i64 (-1)) := by
  refine Gives.by rfl rfl (W.seq ?_)
  repeat' first | ((with_reducible apply WR.mv); exact rfl; exact rfl) | ((with_reducible apply WR.nil)) | (with_reducible refine andThen_n ?_) | (with_reducible refine W.seq ?_) | (with_reducible refine W.region ?_) | (with_reducible refine W.block ?_) | ((with_reducible apply WR.le); exact rfl; exact rfl)
  (refine (?_ : W _ (Code.loop _) _ _))
  (refine W.loopM [0, 1, 7] [] [16, 1016, 2016, 3016, 4016] (fun i : (Nat) => (L.length - i : Nat)) (fun i : (Nat) => (i ≤ L.length : Prop)) (fun i : (Nat) => [(8, .a (.d (.s (.int .i64 (i : Nat)))))]) (fun i : (Nat) => []) 0 (by (try dsimp only); first | omega | exact trivial | exact ⟨by omega, rfl⟩ | exact ⟨by omega, by omega, rfl⟩ | (refine ⟨by omega, ?_⟩; simp; done) | (simp; done)) ⟨rfl, trivial⟩ trivial ⟨np, np, np, np, np, trivial⟩ ?_)
  rintro i σ hP hN; dsimp only [setL, putL] at hP ⊢; obtain ⟨n16, hN⟩ := hN; obtain ⟨n1016, hN⟩ := hN; obtain ⟨n2016, hN⟩ := hN; obtain ⟨n3016, hN⟩ := hN; obtain ⟨n4016, hN⟩ := hN
  by_cases hil : i < L.length
  · have hm : gI L i ∈ L := by
      rw [gI, List.getD_eq_getElem?_getD, List.getElem?_eq_getElem hil]; exact List.getElem_mem hil
    have hdm := hd _ hm
    have hnm := hno _ hm
    repeat' first | ((with_reducible apply WR.vi hx); exact rfl; exact rfl; exact rfl; exact hdm) | ((with_reducible apply WR.mv); exact rfl; exact rfl) | ((with_reducible apply WR.nil)) | (with_reducible refine andThen_n ?_) | (with_reducible refine andThen_r ?_) | (with_reducible refine inB_n ?_) | (with_reducible refine inB_r ?_) | (with_reducible refine W.seq ?_) | (with_reducible refine W.region ?_) | (with_reducible refine W.skip ?_) | (with_reducible refine W.ret ?_) | (with_reducible refine W.block ?_) | ((with_reducible apply W.condT); exact rfl) | ((with_reducible apply W.condF); exact rfl) | ((with_reducible apply Done.f); (intro hh hh2; exact (nomatch hh2)); (focus ((repeat' first | exact all_nil | apply all_cons | exact res_tmp rfl); done)); (focus ((repeat' first | exact all_nil | apply all_cons | exact retOf_s rfl); done)); exact rfl; (focus ((repeat' first | exact outs_nil | apply outs_d); done))) | (intro hb; try (exfalso; omega)) | ((with_reducible apply WR.lss); exact rfl; exact rfl; exact rfl) | ((with_reducible apply WR.ad); exact rfl; exact rfl; exact rfl; (first | exact i64_in _ (by omega))) | ((with_reducible apply WR.idn); exact rfl; exact rfl; exact rfl; omega; (first | exact Nat.le_of_eq ((encI_length _ _).trans (Nat.mul_one _).symm).symm)) | ((with_reducible apply WR.ldd); exact rfl; exact rfl; (first | exact ldId (by first | omega)))
    all_goals first
      | exact absurd (by assumption) hnm
      | ((refine W.nxt (i + 1) (by first | omega | (dsimp only; omega)) ?_ ⟨rfl, trivial⟩ trivial ⟨rfl, rfl, rfl, trivial⟩ trivial ⟨np, np, np, np, np, trivial⟩); (try dsimp only)
         omega)
  · repeat' first | ((with_reducible apply WR.mv); exact rfl; exact rfl) | ((with_reducible apply WR.nil)) | (with_reducible refine andThen_n ?_) | (with_reducible refine andThen_x ?_) | (with_reducible refine inB_x ?_) | (with_reducible refine W.seq ?_) | (with_reducible refine W.region ?_) | (with_reducible refine W.ret ?_) | (with_reducible refine W.exit ?_) | ((with_reducible apply W.condF); exact rfl) | ((with_reducible apply Done.f); (intro hh hh2; exact (nomatch hh2)); (focus ((repeat' first | exact all_nil | apply all_cons | exact res_tmp rfl); done)); (focus ((repeat' first | exact all_nil | apply all_cons | exact retOf_s rfl); done)); exact rfl; (focus ((repeat' first | exact outs_nil | apply outs_d); done))) | (intro hb; try (exfalso; omega)) | ((with_reducible apply WR.lss); exact rfl; exact rfl; exact rfl)
    rfl
theorem containsL_gives {x : D} {P : Int → Prop} [DecidablePred P] {dom : Int → Prop} (hx : HoldsI G x P dom) (L : List Int) (hl : L.length ≤ 1000) (hd : ∀ n ∈ L, dom n) (hno : ∀ n ∈ L, ¬ P n) : Gives G 436 [.d (.sl L.length 1 (encI .i64 L)), .d x] (rb false) := by
  have hi := indexL_gives hx L hl hd hno
  refine Gives.by rfl rfl (W.seq ?_)
  repeat' first | ((with_reducible apply WR.c_s (f := 440) (fn := Code.f440)); exact rfl; exact rfl; exact rfl; (exact rfl); (focus ((repeat' first | exact args_nil | apply args_d | exact toD_d rfl | exact all_nil | apply all_cons | exact rfl); done)); exact hi) | ((with_reducible apply WR.mv); exact rfl; exact rfl) | ((with_reducible apply WR.nil)) | (with_reducible refine andThen_n ?_) | (with_reducible refine W.seq ?_) | (with_reducible refine W.region ?_) | (with_reducible refine W.ret ?_) | ((with_reducible apply Done.f); (intro hh hh2; exact (nomatch hh2)); (focus ((repeat' first | exact all_nil | apply all_cons | exact res_tmp rfl | exact rfl); done)); (focus ((repeat' first | exact all_nil | apply all_cons | exact retOf_s rfl | exact rfl); done)); exact rfl; (focus ((repeat' first | exact outs_nil | apply outs_d | exact rfl); done))) | (intro hb; try (exfalso; omega)) | ((with_reducible apply WR.geq); exact rfl; exact rfl; exact rfl)
  rfl
def NoBad (cs : List S) (y : D) : Prop := Gives G 436 [.d y, .d (.clo 437 [] [.ref cs])] (rb false)
theorem noBad_nil (cs : List S) : NoBad cs (.s .nils) := containsN_gives _
theorem noBad_list (l : IsLawn w h g cs) (hh : 1 ≤ h ∧ h ≤ 10) (L : List Int) (hl : L.length ≤ 1000) (hL : ∀ n ∈ L, 0 ≤ n ∧ n < h) : NoBad cs (.sl L.length 1 (encI .i64 L)) :=
  containsL_gives (holds_bad l hh) L hl (fun n hn => by have := hL n hn; omega) (fun n hn k => by have := hL n hn; omega)
theorem weedsCode_gives (l : IsLawn w h g cs) (hok : LawnOk w h g) {q : Nat → Int} (hq : WGood w h g q) (need : Int) (hn : 1 ≤ need ∧ need ≤ 4) (y : D) (hy : NoBad cs y) : Gives G 421 [aa cs, aa (wR q), ai .i64 need, .d y] (ri .i64 0) := by
  unfold NoBad at hy
  have hv := validWeeds_gives l hok q hq.1
  rw [decide_eq_true hq.2] at hv
  refine Gives.by rfl rfl (W.seq ?_)
  repeat' first | ((with_reducible apply WR.c_s (f := 303) (fn := Code.f303)); exact rfl; exact rfl; exact rfl; (exact rfl); (focus ((repeat' first | exact args_nil | apply args_d | exact toD_d rfl | exact toD_ptr rfl rfl | (apply toD_clo; exact rfl) | exact all_nil | apply all_cons | exact rfl); done)); exact hv) | ((with_reducible apply WR.c_s (f := 436) (fn := Code.f436)); exact rfl; exact rfl; exact rfl; (exact rfl); (focus ((repeat' first | exact args_nil | apply args_d | exact toD_d rfl | exact toD_ptr rfl rfl | (apply toD_clo; exact rfl) | exact all_nil | apply all_cons | exact rfl); done)); exact hy) | ((with_reducible apply WR.c_p (f := 56) (fn := Code.f56)); exact rfl; exact rfl; exact rfl; (exact rfl); (focus ((repeat' first | exact args_nil | apply args_d | exact toD_d rfl | exact toD_ptr rfl rfl | (apply toD_clo; exact rfl) | exact all_nil | apply all_cons | exact rfl); done)); exact within_gives _ _ _) | ((with_reducible apply WR.mv); exact rfl; exact rfl) | ((with_reducible apply WR.nil)) | (with_reducible refine andThen_n ?_) | (with_reducible refine inB_n ?_) | (with_reducible refine W.seq ?_) | (with_reducible refine W.region ?_) | (with_reducible refine W.skip ?_) | (with_reducible refine W.ret ?_) | (with_reducible refine W.block ?_) | ((with_reducible apply W.condF); exact rfl) | ((with_reducible apply Done.f); (intro hh hh2; exact (nomatch hh2)); (focus ((repeat' first | exact all_nil | apply all_cons | exact res_tmp rfl | exact rfl); done)); (focus ((repeat' first | exact all_nil | apply all_cons | exact retOf_s rfl | exact rfl); done)); exact rfl; (focus ((repeat' first | exact outs_nil | apply outs_d | exact rfl); done))) | (intro hb; try (exfalso; omega)) | ((with_reducible apply WR.bx); exact rfl; exact rfl; exact (by first | exact IsLawn.len (by assumption) | exact rowI_len | exact rfl); (exact rfl)) | ((with_reducible apply WR.ld); exact rfl; exact rfl; exact rfl; (first | exact loadC_all (IsLawn.len (by assumption)) | exact loadC_all rowI_len)) | ((with_reducible apply WR.un); exact rfl; exact rfl) | ((with_reducible apply WR.mf); exact rfl; exact rfl) | ((with_reducible apply WR.pk); exact rfl; exact rfl)
  rfl
theorem l07Asked_gives (l : IsLawn w h g cs) (hok : LawnOk w h g) {q : Nat → Int} (hq : WGood w h g q) : Gives G 426 [ar cs, ar (wR q), ab true] (ri .i64 0) := by
  have hv := l07Ok_gives l hok q hq.1
  rw [decide_eq_true hq.2] at hv
  refine Gives.by rfl rfl (W.seq ?_)
  repeat' first | ((with_reducible apply WR.c_s (f := 300) (fn := Code.f300)); exact rfl; exact rfl; exact rfl; (exact rfl); (focus ((repeat' first | exact args_nil | apply args_d | exact toD_d rfl | exact all_nil | apply all_cons | exact rfl); done)); exact hv) | ((with_reducible apply WR.mv); exact rfl; exact rfl) | ((with_reducible apply WR.nil)) | (with_reducible refine andThen_n ?_) | (with_reducible refine W.seq ?_) | (with_reducible refine W.region ?_) | (with_reducible refine W.skip ?_) | (with_reducible refine W.ret ?_) | ((with_reducible apply W.condF); exact rfl) | ((with_reducible apply Done.f); (intro hh hh2; exact (nomatch hh2)); (focus ((repeat' first | exact all_nil | apply all_cons | exact res_tmp rfl | exact rfl); done)); (focus ((repeat' first | exact all_nil | apply all_cons | exact retOf_s rfl | exact rfl); done)); exact rfl; (focus ((repeat' first | exact outs_nil | apply outs_d | exact rfl); done))) | ((with_reducible apply WR.un); exact rfl; exact rfl)
  rfl
theorem l07Need_gives (need : Int) (hn : 1 ≤ need ∧ need ≤ 4) : Gives G 424 [ai .i64 need] (rb true) := by
  refine Gives.by rfl rfl (W.seq ?_)
  repeat' first | ((with_reducible apply WR.c_p (f := 92) (fn := Code.f92)); exact rfl; exact rfl; exact rfl; (exact rfl); (focus ((repeat' first | exact args_nil | apply args_d | exact toD_d rfl | exact all_nil | apply all_cons | exact rfl); done)); exact l00In_gives _ _ _) | ((with_reducible apply WR.mv); exact rfl; exact rfl) | ((with_reducible apply WR.nil)) | (with_reducible refine andThen_n ?_) | (with_reducible refine W.seq ?_) | (with_reducible refine W.region ?_) | (with_reducible refine W.ret ?_) | ((with_reducible apply Done.f); (intro hh hh2; exact (nomatch hh2)); (focus ((repeat' first | exact all_nil | apply all_cons | exact res_tmp rfl | exact rfl); done)); (focus ((repeat' first | exact all_nil | apply all_cons | exact retOf_s rfl | exact rfl); done)); exact rfl; (focus ((repeat' first | exact outs_nil | apply outs_d | exact rfl); done))) | (intro hb; try (exfalso; omega))
  all_goals first
    | exact rb_t trivial
    | rfl
    | (exfalso; omega)
theorem l07Row_gives (l : IsLawn w h g cs) (hh : 1 ≤ h ∧ h ≤ 10) (n : Int) (hn : 0 ≤ n ∧ n < h) : Gives G 425 [ar cs, ai .i64 n] (rb true) := by
  refine Gives.by rfl rfl (W.seq ?_)
  repeat' first | ((with_reducible apply WR.c_p (f := 92) (fn := Code.f92)); exact rfl; exact rfl; exact rfl; (exact rfl); (focus ((repeat' first | exact args_nil | apply args_d | exact toD_d rfl | exact all_nil | apply all_cons | exact rfl); done)); exact l00In_gives _ _ _) | ((with_reducible apply WR.mv); exact rfl; exact rfl) | ((with_reducible apply WR.nil)) | (with_reducible refine andThen_n ?_) | (with_reducible refine W.seq ?_) | (with_reducible refine W.region ?_) | (with_reducible refine W.ret ?_) | ((with_reducible apply Done.f); (intro hh hh2; exact (nomatch hh2)); (focus ((repeat' first | exact all_nil | apply all_cons | exact res_tmp rfl | exact rfl); done)); (focus ((repeat' first | exact all_nil | apply all_cons | exact retOf_s rfl | exact rfl); done)); exact rfl; (focus ((repeat' first | exact outs_nil | apply outs_d | exact rfl); done))) | (intro hb; try (exfalso; omega)) | ((with_reducible apply WR.cv); exact rfl; exact rfl; (first | exact i64_in _ (by omega))) | ((with_reducible apply WR.sb); exact rfl; exact rfl; exact rfl; (first | exact i64_in _ (by omega))) | ((with_reducible apply WR.ldd); exact rfl; exact rfl; (first | exact lawn_h (by assumption))) | ((with_reducible apply WR.fa); exact rfl; exact rfl) | ((with_reducible apply WR.nc); exact rfl; exact rfl)
  all_goals first
    | rfl
    | (exfalso; omega)
end Go.DM
