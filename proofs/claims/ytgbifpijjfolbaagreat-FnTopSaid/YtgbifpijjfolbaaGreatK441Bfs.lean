/- Weeds: counted, a day later, cut: both sides. -/
import Derived.Test.YtgbifpijjfolbaaGreatK441Ints
import Derived.Test.YtgbifpijjfolbaaGreatK441More
import Derived.Test.YtgbifpijjfolbaaGreatK441Beside
import Derived.Test.YtgbifpijjfolbaaGreatK441Weeds
set_option linter.all false
set_option maxHeartbeats 4000000
namespace Go.DM
variable [Tok]
open Go.IntWalk
variable {w h : Int} {g : Nat → Int} {cs : List S}
def pop8 : List UInt8 := [0, 1, 1, 2, 1, 2, 2, 3, 1, 2, 2, 3, 2, 3, 3, 4, 1, 2, 2, 3, 2, 3, 3, 4, 2, 3, 3, 4, 3, 4, 4, 5, 1, 2, 2, 3, 2, 3, 3, 4, 2, 3, 3, 4, 3, 4, 4, 5, 2, 3, 3, 4, 3, 4, 4, 5, 3, 4, 4, 5, 4, 5, 5, 6, 1, 2, 2, 3, 2, 3, 3, 4, 2, 3, 3, 4, 3, 4, 4, 5, 2, 3, 3, 4, 3, 4, 4, 5, 3, 4, 4, 5, 4, 5, 5, 6, 2, 3, 3, 4, 3, 4, 4, 5, 3, 4, 4, 5, 4, 5, 5, 6, 3, 4, 4, 5, 4, 5, 5, 6, 4, 5, 5, 6, 5, 6, 6, 7, 1, 2, 2, 3, 2, 3, 3, 4, 2, 3, 3, 4, 3, 4, 4, 5, 2, 3, 3, 4, 3, 4, 4, 5, 3, 4, 4, 5, 4, 5, 5, 6, 2, 3, 3, 4, 3, 4, 4, 5, 3, 4, 4, 5, 4, 5, 5, 6, 3, 4, 4, 5, 4, 5, 5, 6, 4, 5, 5, 6, 5, 6, 6, 7, 2, 3, 3, 4, 3, 4, 4, 5, 3, 4, 4, 5, 4, 5, 5, 6, 3, 4, 4, 5, 4, 5, 5, 6, 4, 5, 5, 6, 5, 6, 6, 7, 3, 4, 4, 5, 4, 5, 5, 6, 4, 5, 5, 6, 5, 6, 6, 7, 4, 5, 5, 6, 5, 6, 6, 7, 5, 6, 6, 7, 6, 7, 7, 8]
def bcK (n : Nat) : Nat → Nat
  | 0 => 0
  | x + 1 => bcK n x + (n / 2 ^ x) % 2
theorem bcN_cast (n : Nat) : ∀ x, bcN (n : Nat) x = ((bcK n x : Nat) : Int)
  | 0 => rfl
  | x + 1 => by
    simp only [bcN, bcK, bcN_cast n x]
    push_cast
    rfl
theorem pop8_map : pop8.map (fun b => b.toNat) = (List.range 256).map (fun k => bcK k 8) := by decide +kernel
theorem pop8_len : pop8.length = 256 := by
  have := congrArg List.length pop8_map
  rw [List.length_map, List.length_map, List.length_range] at this
  exact this
theorem pop8_at (k : Nat) (hk : k < 256) : gB pop8 k = bcN (k : Nat) 8 := by
  have h1 : (pop8.map (fun b => b.toNat))[k]? = some (bcK k 8) := by rw [pop8_map, List.getElem?_map, List.getElem?_range hk]; rfl
  rw [List.getElem?_map] at h1
  obtain ⟨b, h2, h3⟩ := Option.map_eq_some_iff.1 h1
  rw [bcN_cast, gB, List.getD_eq_getElem?_getD, h2, Option.getD_some, h3]
theorem bcN_low (n : Int) : ∀ x : Nat, x ≤ 8 → bcN (n % 256) x = bcN n x
  | 0, _ => rfl
  | x + 1, hx => by
    rw [bcN, bcN, bcN_low n x (by omega)]
    congr 1
    obtain rfl | rfl | rfl | rfl | rfl | rfl | rfl | rfl : x = 0 ∨ x = 1 ∨ x = 2 ∨ x = 3 ∨ x = 4 ∨ x = 5 ∨ x = 6 ∨ x = 7 := by omega
    all_goals omega
theorem bcN_high (n : Int) : ∀ x : Nat, x ≤ 8 → bcN n (8 + x) = bcN n 8 + bcN (n / 256) x
  | 0, _ => by simp [bcN]
  | x + 1, hx => by
    rw [show 8 + (x + 1) = (8 + x) + 1 by omega, bcN, bcN_high n x (by omega), show bcN (n / 256) (x + 1) = bcN (n / 256) x + (n / 256 / 2 ^ x) % 2 from rfl, Int.add_assoc]
    congr 2
    obtain rfl | rfl | rfl | rfl | rfl | rfl | rfl | rfl : x = 0 ∨ x = 1 ∨ x = 2 ∨ x = 3 ∨ x = 4 ∨ x = 5 ∨ x = 6 ∨ x = 7 := by omega
    all_goals omega
theorem bcN_16 {n : Int} (hn : 0 ≤ n ∧ n < 65536) : bcN n 16 = bcN (n / 256) 8 + bcN (n % 256) 8 := by
  rw [bcN_low n 8 (Nat.le_refl _), Int.add_comm]
  exact bcN_high n 8 (Nat.le_refl _)
section
variable {Γ : Nat → Option Fn} {dsts : Nat → Option Nat} {ops : List Oper} {Q : St → Prop} {σ : St} {d : Option Nat} {gd : Option (Nat × Bool)} {l1 l2 l3 l4 : List Nat}
theorem and255 {n : Int} (hn : 0 ≤ n ∧ n < 65536) : IntKind.u16.wrap ((BitVec.ofInt IntKind.u16.bits n &&& BitVec.ofInt IntKind.u16.bits 255).toNat : Nat) = n % 256 := by
  have h1 : (BitVec.ofInt IntKind.u16.bits n &&& BitVec.ofInt IntKind.u16.bits 255).toNat < 2 ^ 16 := BitVec.isLt _
  rw [wrap16 (by omega), BitVec.toNat_and, ofInt16 hn, ofInt16 ⟨by decide, by decide⟩]
  obtain ⟨m, rfl⟩ : ∃ m : Nat, n = m := ⟨n.toNat, by omega⟩
  rw [Int.toNat_natCast, show Int.toNat 255 = 2 ^ 8 - 1 from rfl, Nat.and_two_pow_sub_one_eq_mod]
  show ((m % 256 : Nat) : Int) = (m : Int) % 256
  omega
theorem WH.b255 {a b : Opd} {n : Int} (hw : wanted dsts (kill l1 (only l3 σ)).env gd = some true) (ha : ev (kill l1 (only l3 σ)).env a = .a (.d (.s (.int .u16 n)))) (hb : ev (kill l1 (only l3 σ)).env b = .a (.d (.s (.int .u16 255)))) (hn : 0 ≤ n ∧ n < 65536)
    (K : WH Γ dsts ops Q (set d (.a (.d (.s (.int .u16 (n % 256))))) σ)) : WH Γ dsts (⟨d, .bin .and a b, gd, l1, l2, l3, l4⟩ :: ops) Q σ :=
  WH.q hw (by simp only [veil, quiet, ha, hb, bin, isShift, intBin]; rw [and255 hn]; rfl) rfl K
end
theorem ones_gives (n : Int) (hn : 0 ≤ n ∧ n < 65536) : Gives G 438 [ai .u16 n] (ri .i64 (bcN n 16)) := by
  have e8 : n / 2 ^ Int.toNat 8 = n / 256 := rfl
  have h1 : 0 ≤ n / 2 ^ Int.toNat 8 ∧ n / 2 ^ Int.toNat 8 < pop8.length := by rw [e8, pop8_len]; omega
  have h2 : 0 ≤ n % 256 ∧ n % 256 < pop8.length := by rw [pop8_len]; omega
  have p1 : gB pop8 (n / 2 ^ Int.toNat 8).toNat = bcN (n / 256) 8 := by
    rw [e8, pop8_at _ (by omega), show (((n / 256).toNat : Nat) : Int) = n / 256 by omega]
  have p2 : gB pop8 (n % 256).toNat = bcN (n % 256) 8 := by
    rw [pop8_at _ (by omega), show (((n % 256).toNat : Nat) : Int) = n % 256 by omega]
  have b1 := bcN_b (n / 256) 8
  have b2 := bcN_b (n % 256) 8
  rw [← p1] at b1
  rw [← p2] at b2
  rw [bcN_16 hn, ← p1, ← p2]
  refine Gives.by rfl rfl (W.seq ?_)
  repeat' first | ((with_reducible apply WH.ist (s := pop8)); (iterate 3 exact rfl); exact h1) | ((with_reducible apply WH.ist (s := pop8)); (iterate 3 exact rfl); exact h2) | ((with_reducible apply WH.b255); (iterate 3 exact rfl); exact hn) | (with_reducible first | apply WR.nil | refine andThen_n ?_ | refine W.seq ?_ | refine W.region ?_ | refine W.ret ?_ | apply WH.nil | refine W.draw ?_) | ((with_reducible apply Done.f); (intro hh hh2; exact (nomatch hh2)); (focus ((repeat' first | exact all_nil | apply all_cons | exact res_tmp rfl); done)); (focus ((repeat' first | exact all_nil | apply all_cons | exact retOf_s rfl); done)); exact rfl; (focus ((repeat' first | exact outs_nil | apply outs_d); done))) | ((with_reducible apply WH.mv); iterate 3 exact rfl) | ((with_reducible apply WR.mv); exact rfl; exact rfl) | ((with_reducible apply WH.bsr); (iterate 3 exact rfl); omega) | ((with_reducible apply WH.cv); exact rfl; exact rfl; (first | exact i64_in _ (by omega) | exact u8_in _ (by omega))) | ((with_reducible apply WH.ad); (iterate 3 exact rfl); (first | exact i64_in _ (by omega) | exact u8_in _ (by omega)))
  rfl
theorem count_gives (q : Nat → Int) (hq : WB q) : Gives G 350 [aa (wR q)] (ri .i64 (cntQ q)) := by
  refine Gives.by rfl rfl (W.seq ?_)
  repeat' first | ((with_reducible apply WR.mv); exact rfl; exact rfl) | (with_reducible first | apply WR.nil | refine andThen_n ?_ | refine W.seq ?_ | refine W.region ?_ | refine W.block ?_) | ((with_reducible apply WR.bx); exact rfl; exact rfl; exact (by first | exact rowI_len | exact rfl); exact rfl) | ((with_reducible apply WR.ld); (iterate 3 exact rfl); (exact loadC_all rowI_len))
  (refine (?_ : W _ (Code.loop _) _ _))
  (refine W.loopM [6] [] [] (fun ((i, n) : (Nat) × (Int)) => (10 - i : Nat)) (fun ((i, n) : (Nat) × (Int)) => (i ≤ 10 ∧ n = cntN q i : Prop)) (fun z : (Nat) × (Int) => match z with | (i, n) => [(3, .a (.d (.s (.int .i64 n)))), (7, .a (.d (.s (.int .i64 (i : Nat)))))]) (fun z : (Nat) × (Int) => match z with | (i, n) => []) (0, 0) (⟨by omega, rfl⟩) ⟨rfl, rfl, trivial⟩ trivial trivial ?_)
  rintro ⟨i, n⟩ σ hP hN; dsimp only [setL, putL] at hP ⊢
  obtain ⟨hi, hn⟩ := hP
  by_cases hil : i < 10
  · have hc := ones_gives (q i) (hq i hil)
    have b1 := cntN_b q i
    have b2 := bcN_b (q i) 16
    repeat' first | ((with_reducible apply WR.c_s (f := 438) (fn := Code.f438)); (iterate 3 exact rfl); exact rfl; (focus ((repeat' first | exact args_nil | apply args_d | exact toD_d rfl | exact rfl); done)); exact hc) | ((with_reducible apply WR.mv); exact rfl; exact rfl) | (with_reducible first | apply WR.nil | refine andThen_n ?_ | refine inB_n ?_ | refine W.seq ?_ | refine W.region ?_ | refine W.skip ?_ | refine W.block ?_) | ((with_reducible apply W.condT); exact rfl) | (intro hb; try (exfalso; omega)) | ((with_reducible apply WR.ad); (iterate 3 exact rfl); (exact i64_in _ (by omega))) | ((with_reducible apply WR.lss); iterate 3 exact rfl) | ((with_reducible apply WR.ga); (iterate 3 exact rfl); omega; (exact ldRd (by omega)))
    (refine W.nxt (i + 1, n + bcN (q i) 16) (by first | omega | (dsimp only; omega)) ?_ ⟨rfl, rfl, trivial⟩ trivial ⟨rfl, trivial⟩ trivial trivial); (try dsimp only)
    exact ⟨by omega, by rw [hn]; rfl⟩
  · obtain rfl : i = 10 := by omega
    repeat' first | ((with_reducible apply WR.mv); exact rfl; exact rfl) | (with_reducible first | apply WR.nil | refine andThen_n ?_ | refine andThen_x ?_ | refine inB_x ?_ | refine W.seq ?_ | refine W.region ?_ | refine W.ret ?_ | refine W.exit ?_) | ((with_reducible apply W.condF); exact rfl) | ((with_reducible apply Done.f); (intro hh hh2; exact (nomatch hh2)); (focus ((repeat' first | exact all_nil | apply all_cons | exact res_tmp rfl); done)); (focus ((repeat' first | exact all_nil | apply all_cons | exact retOf_s rfl); done)); exact rfl; (focus ((repeat' first | exact outs_nil | apply outs_d); done))) | (intro hb; try (exfalso; omega)) | ((with_reducible apply WR.lss); iterate 3 exact rfl)
    rw [hn]; rfl
theorem l07Count_gives (q : Nat → Int) (hq : WB q) : Gives G 429 [ar (wR q)] (ri .i64 (cntQ q)) := by
  refine Gives.by rfl rfl (W.seq ?_)
  repeat' first | ((with_reducible apply WR.mv); exact rfl; exact rfl) | (with_reducible first | apply WR.nil | refine andThen_n ?_ | refine W.seq ?_ | refine W.region ?_ | refine W.block ?_)
  (refine (?_ : W _ (Code.loop _) _ _))
  (refine W.loopM [0] [] [] (fun ((i, n) : (Nat) × (Int)) => (10 - i : Nat)) (fun ((i, n) : (Nat) × (Int)) => (i ≤ 10 ∧ n = cntN q i : Prop)) (fun z : (Nat) × (Int) => match z with | (i, n) => [(3, .a (.d (.s (.int .i64 n)))), (4, .a (.d (.s (.int .i64 (i : Nat)))))]) (fun z : (Nat) × (Int) => match z with | (i, n) => []) (0, 0) (⟨by omega, rfl⟩) ⟨rfl, rfl, trivial⟩ trivial trivial ?_)
  rintro ⟨i, n⟩ σ hP hN; dsimp only [setL, putL] at hP ⊢
  obtain ⟨hi, hn⟩ := hP
  by_cases hil : i < 10
  · have b1 := cntN_b q i
    have hqi := hq i hil
    repeat' first | ((with_reducible apply WR.mv); exact rfl; exact rfl) | (with_reducible first | apply WR.nil | refine andThen_n ?_ | refine W.seq ?_ | refine W.region ?_ | refine W.skip ?_ | refine W.block ?_) | ((with_reducible apply W.condT); exact rfl) | (intro hb; try (exfalso; omega)) | ((with_reducible apply WR.lss); iterate 3 exact rfl)
    (refine (?_ : W _ (Code.loop _) _ _))
    (refine W.loopM [0, 4] [] [] (fun ((x, m) : (Nat) × (Int)) => (16 - x : Nat)) (fun ((x, m) : (Nat) × (Int)) => (x ≤ 16 ∧ m = cntN q i + bcN (q i) x : Prop)) (fun z : (Nat) × (Int) => match z with | (x, m) => [(3, .a (.d (.s (.int .i64 m)))), (5, .a (.d (.s (.int .i64 (x : Nat)))))]) (fun z : (Nat) × (Int) => match z with | (x, m) => []) (0, n) (⟨by omega, by rw [hn]; simp [bcN]⟩) ⟨rfl, rfl, trivial⟩ trivial trivial ?_)
    rintro ⟨x, m⟩ σ hP hN; dsimp only [setL, putL] at hP ⊢
    obtain ⟨hx, hm⟩ := hP
    by_cases hxl : x < 16
    · have b2 := bcN_b (q i) x
      have hd : 0 ≤ q ((i : Nat) : Int).toNat / 2 ^ ((x : Nat) : Int).toNat ∧ q ((i : Nat) : Int).toNat / 2 ^ ((x : Nat) : Int).toNat < 65536 := div_b hqi x
      repeat' first | ((with_reducible first | apply WR.mv | apply WR.nc); exact rfl; exact rfl) | ((with_reducible apply WR.ad); (iterate 3 exact rfl); (first | exact i64_in _ (by omega) | exact u64_in _ (by omega))) | (with_reducible first | apply WR.nil | refine andThen_n ?_ | refine inB_n ?_ | refine W.seq ?_ | refine W.region ?_ | refine W.skip ?_ | refine W.block ?_) | ((with_reducible apply W.condT); exact rfl) | (intro hb; try (exfalso; omega)) | ((with_reducible apply WR.lss); iterate 3 exact rfl) | ((with_reducible apply WR.cv); exact rfl; exact rfl; (first | exact i64_in _ (by omega) | exact u64_in _ (by omega))) | ((with_reducible first | apply WR.bsr | apply WR.remp | apply WR.iar); (iterate 3 exact rfl); omega) | ((with_reducible apply WR.ldd); exact rfl; exact rfl; (exact ldR (by omega)))
      (refine W.nxt (x + 1, m + (q i / 2 ^ x) % 2) (by first | omega | (dsimp only; omega)) ?_ ⟨rfl, rfl, trivial⟩ trivial ⟨rfl, rfl, trivial⟩ trivial trivial); (try dsimp only)
      exact ⟨by omega, by rw [hm, bcN, Int.add_assoc]⟩
    · obtain rfl : x = 16 := by omega
      repeat' first | ((with_reducible apply WR.mv); exact rfl; exact rfl) | ((with_reducible apply WR.ad); (iterate 3 exact rfl); (exact i64_in _ (by omega))) | (with_reducible first | apply WR.nil | refine andThen_n ?_ | refine andThen_x ?_ | refine inB_n ?_ | refine inB_x ?_ | refine W.seq ?_ | refine W.region ?_ | refine W.exit ?_) | ((with_reducible apply W.condF); exact rfl) | (intro hb; try (exfalso; omega)) | ((with_reducible apply WR.lss); iterate 3 exact rfl)
      (refine W.nxt (i + 1, m) (by first | omega | (dsimp only; omega)) ?_ ⟨rfl, rfl, trivial⟩ trivial ⟨rfl, trivial⟩ trivial trivial); (try dsimp only)
      exact ⟨by omega, by rw [hm]; rfl⟩
  · obtain rfl : i = 10 := by omega
    repeat' first | ((with_reducible apply WR.mv); exact rfl; exact rfl) | (with_reducible first | apply WR.nil | refine andThen_n ?_ | refine andThen_x ?_ | refine inB_x ?_ | refine W.seq ?_ | refine W.region ?_ | refine W.ret ?_ | refine W.exit ?_) | ((with_reducible apply W.condF); exact rfl) | ((with_reducible apply Done.f); (intro hh hh2; exact (nomatch hh2)); (focus ((repeat' first | exact all_nil | apply all_cons | exact res_tmp rfl); done)); (focus ((repeat' first | exact all_nil | apply all_cons | exact retOf_s rfl); done)); exact rfl; (focus ((repeat' first | exact outs_nil | apply outs_d); done))) | (intro hb; try (exfalso; omega)) | ((with_reducible apply WR.lss); iterate 3 exact rfl)
    rw [hn]; rfl
theorem putG_gives (q : Nat → Int) (x y : Int) (hb : 0 ≤ x ∧ x < 16 ∧ 0 ≤ y ∧ y < 10) : Gives G 302 [aa (wR q), ac x y] ⟨[.agg (wR (gset q y.toNat (orB (q y.toNat) (2 ^ x.toNat))))], []⟩ := by
  refine Gives.by rfl rfl (W.seq ?_)
  repeat' first | ((with_reducible apply WH.orb); iterate 3 exact rfl) | (with_reducible first | apply WR.nil | refine andThen_n ?_ | refine W.seq ?_ | refine W.region ?_ | refine W.ret ?_ | apply WH.nil | refine W.draw ?_) | ((with_reducible apply Done.f); (intro hh hh2; exact (nomatch hh2)); (focus ((repeat' first | exact all_nil | apply all_cons | exact res_cell rfl rfl (by first | exact List.length_replicate .. | exact rowI_len | exact rfl) | exact rfl); done)); (focus ((repeat' first | exact all_nil | apply all_cons | exact retOf_a rfl | exact rfl); done)); exact rfl; (focus ((repeat' first | exact outs_nil | apply outs_d | exact rfl); done))) | ((with_reducible apply WH.ld); (iterate 3 exact rfl); (first | exact ldR (by omega) | exact loadC_all rowI_len); exact rfl) | ((with_reducible first | apply WH.lx | apply WH.fa); iterate 3 exact rfl) | ((with_reducible apply WR.bx); exact rfl; exact rfl; exact (by first | exact List.length_replicate .. | exact rowI_len | exact rfl); exact rfl) | ((with_reducible apply WH.ia); (iterate 3 exact rfl); omega; exact rfl) | ((with_reducible apply WR.ld); (iterate 3 exact rfl); (first | exact ldR (by omega) | exact loadC_all rowI_len)) | ((with_reducible apply WR.al); exact rfl; exact rfl) | ((with_reducible apply WR.st); (iterate 3 exact rfl); exact storeAll (by first | exact List.length_replicate .. | exact rowI_len | exact rfl) (by first | exact List.length_replicate .. | exact rowI_len | exact rfl)) | ((with_reducible apply WH.b1s); (iterate 3 exact rfl); omega) | ((with_reducible apply WH.st); (iterate 3 exact rfl); exact stR (by omega); exact rfl; exact rfl)
  rfl
theorem rowBad_gives (l : IsLawn w h g cs) (n : Int) (hh : 1 ≤ h ∧ h ≤ 10) (hn : -9223372036854775808 ≤ n ∧ n ≤ 9223372036854775807) : Gives G 437 [ai .i64 n, ar cs] (rb (decide (¬ (0 ≤ n ∧ n ≤ h - 1)))) := by
  refine Gives.by rfl rfl (W.seq ?_)
  repeat' first | ((with_reducible apply WR.c_p (f := 56) (fn := Code.f56)); (iterate 3 exact rfl); exact rfl; (focus ((repeat' first | exact args_nil | apply args_d | exact toD_d rfl | exact all_nil | apply all_cons | exact rfl); done)); exact within_gives _ _ _) | ((with_reducible first | apply WR.mv | apply WR.un | apply WR.fa); exact rfl; exact rfl) | (with_reducible first | apply WR.nil | refine andThen_n ?_ | refine W.seq ?_ | refine W.region ?_ | refine W.ret ?_) | ((with_reducible apply Done.f); (intro hh hh2; exact (nomatch hh2)); (focus ((repeat' first | exact all_nil | apply all_cons | exact res_tmp rfl | exact rfl); done)); (focus ((repeat' first | exact all_nil | apply all_cons | exact retOf_s rfl | exact rfl); done)); exact rfl; (focus ((repeat' first | exact outs_nil | apply outs_d | exact rfl); done))) | (intro hb; try (exfalso; omega)) | ((with_reducible apply WR.cv); exact rfl; exact rfl; (exact i64_in _ (by omega))) | ((with_reducible apply WR.sb); (iterate 3 exact rfl); (exact i64_in _ (by omega))) | ((with_reducible apply WR.ldd); exact rfl; exact rfl; (exact lawn_h (by assumption)))
  all_goals first
    | exact rb_t (by omega)
    | exact rb_f (by omega)
theorem holds_bad (l : IsLawn w h g cs) (hh : 1 ≤ h ∧ h ≤ 10) : HoldsI G (.clo 437 [] [.ref cs]) (fun n => ¬ (0 ≤ n ∧ n ≤ h - 1)) (fun n => -9223372036854775808 ≤ n ∧ n ≤ 9223372036854775807) :=
  ⟨437, Code.f437, _, _, rfl, rfl, rfl, fun n hn => rowBad_gives l n hh hn⟩
theorem indexN_gives (x : D) : Gives G 440 [.d (.s .nils), .d x] (ri .i64 (-1)) := by
  refine Gives.by rfl rfl (W.seq ?_)
  repeat' first | (with_reducible refine W.loop ?_) | ((with_reducible first | apply WR.mv | apply WR.le); exact rfl; exact rfl) | (with_reducible first | apply WR.nil | refine andThen_n ?_ | refine andThen_x ?_ | refine inB_x ?_ | refine W.seq ?_ | refine W.region ?_ | refine W.ret ?_ | refine W.exit ?_ | refine W.block ?_) | ((with_reducible apply W.condF); exact rfl) | ((with_reducible apply Done.f); (intro hh hh2; exact (nomatch hh2)); (focus ((repeat' first | exact all_nil | apply all_cons | exact res_tmp rfl); done)); (focus ((repeat' first | exact all_nil | apply all_cons | exact retOf_s rfl); done)); exact rfl; (focus ((repeat' first | exact outs_nil | apply outs_d); done))) | (intro hb; try (exfalso; omega)) | ((with_reducible apply WR.lss); iterate 3 exact rfl)
  all_goals rfl
theorem containsN_gives (x : D) : Gives G 436 [.d (.s .nils), .d x] (rb false) := by
  have hi := indexN_gives x
  refine Gives.by rfl rfl (W.seq ?_)
  repeat' first | ((with_reducible apply WR.c_s (f := 440) (fn := Code.f440)); (iterate 3 exact rfl); exact rfl; (focus ((repeat' first | exact args_nil | apply args_d | exact toD_d rfl | exact all_nil | apply all_cons | exact rfl); done)); exact hi) | ((with_reducible apply WR.mv); exact rfl; exact rfl) | (with_reducible first | apply WR.nil | refine andThen_n ?_ | refine W.seq ?_ | refine W.region ?_ | refine W.ret ?_) | ((with_reducible apply Done.f); (intro hh hh2; exact (nomatch hh2)); (focus ((repeat' first | exact all_nil | apply all_cons | exact res_tmp rfl | exact rfl); done)); (focus ((repeat' first | exact all_nil | apply all_cons | exact retOf_s rfl | exact rfl); done)); exact rfl; (focus ((repeat' first | exact outs_nil | apply outs_d | exact rfl); done))) | (intro hb; try (exfalso; omega)) | ((with_reducible apply WR.geq); iterate 3 exact rfl)
  rfl
theorem indexL_gives {x : D} {P : Int → Prop} [DecidablePred P] {dom : Int → Prop} (hx : HoldsI G x P dom) (L : List Int) (hl : L.length ≤ 1000) (hd : ∀ n ∈ L, dom n) (hno : ∀ n ∈ L, ¬ P n) : Gives G 440 [.d (.sl L.length 1 (encI .i64 L)), .d x] (ri .i64 (-1)) := by
  refine Gives.by rfl rfl (W.seq ?_)
  repeat' first | ((with_reducible first | apply WR.mv | apply WR.le); exact rfl; exact rfl) | (with_reducible first | apply WR.nil | refine andThen_n ?_ | refine W.seq ?_ | refine W.region ?_ | refine W.block ?_)
  (refine (?_ : W _ (Code.loop _) _ _))
  (refine W.loopM [0, 1, 7] [] [16, 1016, 2016, 3016, 4016] (fun i : (Nat) => (L.length - i : Nat)) (fun i : (Nat) => (i ≤ L.length : Prop)) (fun i : (Nat) => [(8, .a (.d (.s (.int .i64 (i : Nat)))))]) (fun i : (Nat) => []) 0 (by (try dsimp only); first | omega | exact trivial | exact ⟨by omega, rfl⟩ | exact ⟨by omega, by omega, rfl⟩ | (refine ⟨by omega, ?_⟩; simp; done) | (simp; done)) ⟨rfl, trivial⟩ trivial ⟨np, np, np, np, np, trivial⟩ ?_)
  rintro i σ hP hN; dsimp only [setL, putL] at hP ⊢; obtain ⟨n16, hN⟩ := hN; obtain ⟨n1016, hN⟩ := hN; obtain ⟨n2016, hN⟩ := hN; obtain ⟨n3016, hN⟩ := hN; obtain ⟨n4016, hN⟩ := hN
  by_cases hil : i < L.length
  · have hm : gI L i ∈ L := by
      rw [gI, List.getD_eq_getElem?_getD, List.getElem?_eq_getElem hil]; exact List.getElem_mem hil
    have hdm := hd _ hm
    have hnm := hno _ hm
    repeat' first | ((with_reducible apply WR.vi hx); (iterate 3 exact rfl); exact hdm) | ((with_reducible apply WR.mv); exact rfl; exact rfl) | (with_reducible first | apply WR.nil | refine andThen_n ?_ | refine andThen_r ?_ | refine inB_n ?_ | refine inB_r ?_ | refine W.seq ?_ | refine W.region ?_ | refine W.skip ?_ | refine W.ret ?_ | refine W.block ?_) | ((with_reducible apply W.condT); exact rfl) | ((with_reducible apply W.condF); exact rfl) | ((with_reducible apply Done.f); (intro hh hh2; exact (nomatch hh2)); (focus ((repeat' first | exact all_nil | apply all_cons | exact res_tmp rfl); done)); (focus ((repeat' first | exact all_nil | apply all_cons | exact retOf_s rfl); done)); exact rfl; (focus ((repeat' first | exact outs_nil | apply outs_d); done))) | (intro hb; try (exfalso; omega)) | ((with_reducible apply WR.lss); iterate 3 exact rfl) | ((with_reducible apply WR.ad); (iterate 3 exact rfl); (exact i64_in _ (by omega))) | ((with_reducible apply WR.idn); (iterate 3 exact rfl); omega; (exact Nat.le_of_eq ((encI_length _ _).trans (Nat.mul_one _).symm).symm)) | ((with_reducible apply WR.ldd); exact rfl; exact rfl; (first | exact ldId (by first | omega)))
    all_goals first
      | exact absurd (by assumption) hnm
      | ((refine W.nxt (i + 1) (by first | omega | (dsimp only; omega)) ?_ ⟨rfl, trivial⟩ trivial ⟨rfl, rfl, rfl, trivial⟩ trivial ⟨np, np, np, np, np, trivial⟩); (try dsimp only)
         omega)
  · repeat' first | ((with_reducible apply WR.mv); exact rfl; exact rfl) | (with_reducible first | apply WR.nil | refine andThen_n ?_ | refine andThen_x ?_ | refine inB_x ?_ | refine W.seq ?_ | refine W.region ?_ | refine W.ret ?_ | refine W.exit ?_) | ((with_reducible apply W.condF); exact rfl) | ((with_reducible apply Done.f); (intro hh hh2; exact (nomatch hh2)); (focus ((repeat' first | exact all_nil | apply all_cons | exact res_tmp rfl); done)); (focus ((repeat' first | exact all_nil | apply all_cons | exact retOf_s rfl); done)); exact rfl; (focus ((repeat' first | exact outs_nil | apply outs_d); done))) | (intro hb; try (exfalso; omega)) | ((with_reducible apply WR.lss); iterate 3 exact rfl)
    rfl
theorem containsL_gives {x : D} {P : Int → Prop} [DecidablePred P] {dom : Int → Prop} (hx : HoldsI G x P dom) (L : List Int) (hl : L.length ≤ 1000) (hd : ∀ n ∈ L, dom n) (hno : ∀ n ∈ L, ¬ P n) : Gives G 436 [.d (.sl L.length 1 (encI .i64 L)), .d x] (rb false) := by
  have hi := indexL_gives hx L hl hd hno
  refine Gives.by rfl rfl (W.seq ?_)
  repeat' first | ((with_reducible apply WR.c_s (f := 440) (fn := Code.f440)); (iterate 3 exact rfl); exact rfl; (focus ((repeat' first | exact args_nil | apply args_d | exact toD_d rfl | exact all_nil | apply all_cons | exact rfl); done)); exact hi) | ((with_reducible apply WR.mv); exact rfl; exact rfl) | (with_reducible first | apply WR.nil | refine andThen_n ?_ | refine W.seq ?_ | refine W.region ?_ | refine W.ret ?_) | ((with_reducible apply Done.f); (intro hh hh2; exact (nomatch hh2)); (focus ((repeat' first | exact all_nil | apply all_cons | exact res_tmp rfl | exact rfl); done)); (focus ((repeat' first | exact all_nil | apply all_cons | exact retOf_s rfl | exact rfl); done)); exact rfl; (focus ((repeat' first | exact outs_nil | apply outs_d | exact rfl); done))) | (intro hb; try (exfalso; omega)) | ((with_reducible apply WR.geq); iterate 3 exact rfl)
  rfl
def NoBad (cs : List S) (y : D) : Prop := Gives G 436 [.d y, .d (.clo 437 [] [.ref cs])] (rb false)
theorem noBad_nil (cs : List S) : NoBad cs (.s .nils) := containsN_gives _
theorem noBad_list (l : IsLawn w h g cs) (hh : 1 ≤ h ∧ h ≤ 10) (L : List Int) (hl : L.length ≤ 1000) (hL : ∀ n ∈ L, 0 ≤ n ∧ n < h) : NoBad cs (.sl L.length 1 (encI .i64 L)) :=
  containsL_gives (holds_bad l hh) L hl (fun n hn => by have := hL n hn; omega) (fun n hn k => by have := hL n hn; omega)
theorem weedsCode_gives (l : IsLawn w h g cs) (hok : LawnOk w h g) {q : Nat → Int} (hq : WGood w h g q) (need : Int) (hn : 1 ≤ need ∧ need ≤ 4) (y : D) (hy : NoBad cs y) : Gives G 421 [aa cs, aa (wR q), ai .i64 need, .d y] (ri .i64 0) := by
  unfold NoBad at hy
  have hv := validWeeds_gives l hok q hq.1
  rw [decide_eq_true hq.2] at hv
  refine Gives.by rfl rfl (W.seq ?_)
  repeat' first | ((with_reducible apply WR.c_s (f := 303) (fn := Code.f303)); (iterate 3 exact rfl); exact rfl; (focus ((repeat' first | exact args_nil | apply args_d | exact toD_d rfl | exact toD_ptr rfl rfl | (apply toD_clo; exact rfl) | exact all_nil | apply all_cons | exact rfl); done)); exact hv) | ((with_reducible apply WR.c_s (f := 436) (fn := Code.f436)); (iterate 3 exact rfl); exact rfl; (focus ((repeat' first | exact args_nil | apply args_d | exact toD_d rfl | exact toD_ptr rfl rfl | (apply toD_clo; exact rfl) | exact all_nil | apply all_cons | exact rfl); done)); exact hy) | ((with_reducible apply WR.c_p (f := 56) (fn := Code.f56)); (iterate 3 exact rfl); exact rfl; (focus ((repeat' first | exact args_nil | apply args_d | exact toD_d rfl | exact toD_ptr rfl rfl | (apply toD_clo; exact rfl) | exact all_nil | apply all_cons | exact rfl); done)); exact within_gives _ _ _) | ((with_reducible first | apply WR.mv | apply WR.un | apply WR.mf | apply WR.pk); exact rfl; exact rfl) | (with_reducible first | apply WR.nil | refine andThen_n ?_ | refine inB_n ?_ | refine W.seq ?_ | refine W.region ?_ | refine W.skip ?_ | refine W.ret ?_ | refine W.block ?_) | ((with_reducible apply W.condF); exact rfl) | ((with_reducible apply Done.f); (intro hh hh2; exact (nomatch hh2)); (focus ((repeat' first | exact all_nil | apply all_cons | exact res_tmp rfl | exact rfl); done)); (focus ((repeat' first | exact all_nil | apply all_cons | exact retOf_s rfl | exact rfl); done)); exact rfl; (focus ((repeat' first | exact outs_nil | apply outs_d | exact rfl); done))) | (intro hb; try (exfalso; omega)) | ((with_reducible apply WR.bx); exact rfl; exact rfl; exact (by first | exact IsLawn.len (by assumption) | exact rowI_len | exact rfl); exact rfl) | ((with_reducible apply WR.ld); (iterate 3 exact rfl); (first | exact loadC_all (IsLawn.len (by assumption)) | exact loadC_all rowI_len))
  rfl
theorem l07Asked_gives (l : IsLawn w h g cs) (hok : LawnOk w h g) {q : Nat → Int} (hq : WGood w h g q) : Gives G 426 [ar cs, ar (wR q), ab true] (ri .i64 0) := by
  have hv := l07Ok_gives l hok q hq.1
  rw [decide_eq_true hq.2] at hv
  refine Gives.by rfl rfl (W.seq ?_)
  repeat' first | ((with_reducible apply WR.c_s (f := 300) (fn := Code.f300)); (iterate 3 exact rfl); exact rfl; (focus ((repeat' first | exact args_nil | apply args_d | exact toD_d rfl | exact all_nil | apply all_cons | exact rfl); done)); exact hv) | ((with_reducible first | apply WR.mv | apply WR.un); exact rfl; exact rfl) | (with_reducible first | apply WR.nil | refine andThen_n ?_ | refine W.seq ?_ | refine W.region ?_ | refine W.skip ?_ | refine W.ret ?_) | ((with_reducible apply W.condF); exact rfl) | ((with_reducible apply Done.f); (intro hh hh2; exact (nomatch hh2)); (focus ((repeat' first | exact all_nil | apply all_cons | exact res_tmp rfl | exact rfl); done)); (focus ((repeat' first | exact all_nil | apply all_cons | exact retOf_s rfl | exact rfl); done)); exact rfl; (focus ((repeat' first | exact outs_nil | apply outs_d | exact rfl); done)))
  rfl
theorem l07Need_gives (need : Int) (hn : 1 ≤ need ∧ need ≤ 4) : Gives G 424 [ai .i64 need] (rb true) := by
  refine Gives.by rfl rfl (W.seq ?_)
  repeat' first | ((with_reducible apply WR.c_p (f := 92) (fn := Code.f92)); (iterate 3 exact rfl); exact rfl; (focus ((repeat' first | exact args_nil | apply args_d | exact toD_d rfl | exact all_nil | apply all_cons | exact rfl); done)); exact l00In_gives _ _ _) | ((with_reducible apply WR.mv); exact rfl; exact rfl) | (with_reducible first | apply WR.nil | refine andThen_n ?_ | refine W.seq ?_ | refine W.region ?_ | refine W.ret ?_) | ((with_reducible apply Done.f); (intro hh hh2; exact (nomatch hh2)); (focus ((repeat' first | exact all_nil | apply all_cons | exact res_tmp rfl | exact rfl); done)); (focus ((repeat' first | exact all_nil | apply all_cons | exact retOf_s rfl | exact rfl); done)); exact rfl; (focus ((repeat' first | exact outs_nil | apply outs_d | exact rfl); done))) | (intro hb; try (exfalso; omega))
  all_goals first
    | exact rb_t trivial
    | rfl
    | (exfalso; omega)
end Go.DM

/- Steps from a cell: one way of counting them, on plain data; the reference's side. -/
set_option maxHeartbeats 4000000
namespace Go.DM
variable [Tok]
open Go.IntWalk
variable {w h : Int} {g : Nat → Int} {cs : List S}
def visit (ok : Cel → Prop) [DecidablePred ok] (c : Cel) (s : (Nat → Int) × List Cel) (e : Cel) : (Nat → Int) × List Cel :=
  if ok e ∧ s.1 (ix e) < 0 then (gset s.1 (ix e) (s.1 (ix c) + 1), s.2 ++ [e]) else s
def bfs (ok : Cel → Prop) [DecidablePred ok] : Nat → (Nat → Int) × List Cel → (Nat → Int)
  | 0, s => s.1
  | _ + 1, (d, []) => d
  | n + 1, (d, c :: r) => bfs ok n ((Near c.1 c.2).foldl (visit ok c) (d, r))
def far (ok : Cel → Prop) [DecidablePred ok] (c : Cel) : Nat → Int := bfs ok 100 (gset (fun _ => -1) (ix c) 0, [c])
def unk (d : Nat → Int) : Nat := ((List.range 100).filter fun k => decide (d k < 0)).length
theorem unk_cons (p p' : Nat → Bool) {k : Nat} : ∀ l : List Nat, l.Nodup → k ∈ l → p k = true → p' k = false → (∀ i, i ≠ k → p' i = p i) → (l.filter p').length + 1 = (l.filter p).length
  | [], _, h, _, _, _ => by cases h
  | x :: r, hn, hm, h1, h2, h3 => by
    rw [List.nodup_cons] at hn
    by_cases e : x = k
    · subst e
      have : r.filter p' = r.filter p := List.filter_congr fun i hi => h3 i fun e => by subst e; exact hn.1 hi
      simp [List.filter_cons, h1, h2, this]
    · have hm' : k ∈ r := by
        rcases List.mem_cons.1 hm with h | h
        · exact absurd h.symm e
        · exact h
      have ih := unk_cons p p' r hn.2 hm' h1 h2 h3
      rw [List.filter_cons, List.filter_cons, h3 x e]
      split <;> simp_all
theorem unk_set {d : Nat → Int} {k : Nat} {v : Int} (hk : k < 100) (h : d k < 0) (hv : 0 ≤ v) : unk (gset d k v) + 1 = unk d := by
  unfold unk
  refine unk_cons _ _ _ List.nodup_range (List.mem_range.2 hk) (by simpa using h) (by simp [gset]; omega) fun i hi => by simp [gset, hi]
structure BInv (w h : Int) (d : Nat → Int) (qu : List Cel) : Prop where
  lo : ∀ k, -1 ≤ d k
  hi : ∀ k, d k + unk d ≤ 100
  q : ∀ c ∈ qu, Has w h c.1 c.2 ∧ 0 ≤ d (ix c)
  len : qu.length + unk d ≤ 100
theorem BInv.push {d : Nat → Int} {qu : List Cel} (hs : w ≤ 10 ∧ h ≤ 10) (b : BInv w h d qu) {c e : Cel} (hc : c ∈ qu) (he : Has w h e.1 e.2) (hd : d (ix e) < 0) : BInv w h (gset d (ix e) (d (ix c) + 1)) (qu ++ [e]) ∧ unk (gset d (ix e) (d (ix c) + 1)) + 1 = unk d := by
  have h1 := b.q c hc
  have hk : ix e < 100 := by have := he; simp only [Has] at this; simp only [ix]; omega
  have hu := unk_set (v := d (ix c) + 1) hk hd (by omega)
  refine ⟨⟨fun k => ?_, fun k => ?_, fun a ha => ?_, ?_⟩, hu⟩
  · simp only [gset]; split
    · omega
    · exact b.lo k
  · have h2 := b.hi k
    have h3 := b.hi (ix c)
    simp only [gset] at hu ⊢; split <;> omega
  · rw [List.mem_append, List.mem_singleton] at ha
    rcases ha with ha | rfl
    · refine ⟨(b.q a ha).1, ?_⟩
      simp only [gset]; split
      · omega
      · exact (b.q a ha).2
    · exact ⟨he, by simp only [gset, if_true]; omega⟩
  · have := b.len
    rw [List.length_append, List.length_singleton]; omega
theorem BInv.first {c : Cel} (hs : w ≤ 10 ∧ h ≤ 10) (hc : Has w h c.1 c.2) : BInv w h (gset (fun _ => -1) (ix c) 0) [c] ∧ unk (gset (fun _ => -1) (ix c) 0) = 99 := by
  have hk : ix c < 100 := by have := hc; simp only [Has] at this; simp only [ix]; omega
  have hu := unk_set (d := fun _ => -1) (k := ix c) (v := 0) hk (by omega) (by omega)
  have h0 : unk (fun _ => -1) = 100 := by decide
  refine ⟨⟨fun k => ?_, fun k => ?_, fun a ha => ?_, ?_⟩, by omega⟩
  · simp only [gset]; split <;> omega
  · simp only [gset] at hu ⊢; split <;> omega
  · rw [List.mem_singleton] at ha; subst ha; exact ⟨hc, by simp [gset]⟩
  · simp; omega
theorem fold_snoc {α β : Type} {f : β → α → β} {l : List α} {i : Nat} {a : α} (s : β) (h : l[i]? = some a) : (l.take (i + 1)).foldl f s = f ((l.take i).foldl f s) a := by
  rw [List.take_add_one, h, List.foldl_append]; rfl
def okS (w h : Int) (g : Nat → Int) (b : Bool) (c : Cel) : Prop := Has w h c.1 c.2 ∧ (g (ix c) = 0 ∨ (b = false ∧ g (ix c) = 3))
instance (w h : Int) (g : Nat → Int) (b : Bool) : DecidablePred (okS w h g b) := fun c => inferInstanceAs (Decidable (_ ∧ _))
theorem inside_has {c e : Cel} (he : e ∈ inside w h (Near c.1 c.2)) : Has w h e.1 e.2 := by
  unfold inside at he; rw [List.mem_filter] at he; simpa using he.2
end Go.DM
