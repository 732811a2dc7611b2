/- Weeds: rows of bits, a day later, cut, counted, planned: plain facts. -/
import Derived.Test.YtgbifpijjfolbaaGreatK441Weeds
import Derived.Test.YtgbifpijjfolbaaGreatK441Text
set_option linter.all false
set_option maxHeartbeats 4000000
namespace Go.DM
variable [Tok]
open Go.IntWalk
variable {w h : Int} {g : Nat → Int} {cs : List S}
def orB (n m : Int) : Int := IntKind.u16.wrap ((BitVec.ofInt IntKind.u16.bits n ||| BitVec.ofInt IntKind.u16.bits m).toNat : Nat)
def clB (n m : Int) : Int := IntKind.u16.wrap ((BitVec.ofInt IntKind.u16.bits n &&& ~~~(BitVec.ofInt IntKind.u16.bits m)).toNat : Nat)
theorem orB_b (n m : Int) : 0 ≤ orB n m ∧ orB n m < 65536 := by
  have h1 : (BitVec.ofInt IntKind.u16.bits n ||| BitVec.ofInt IntKind.u16.bits m).toNat < 2 ^ 16 := BitVec.isLt _
  have h2 : orB n m = ((BitVec.ofInt IntKind.u16.bits n ||| BitVec.ofInt IntKind.u16.bits m).toNat : Nat) := wrap16 (by omega)
  omega
theorem clB_b (n m : Int) : 0 ≤ clB n m ∧ clB n m < 65536 := by
  have h1 : (BitVec.ofInt IntKind.u16.bits n &&& ~~~(BitVec.ofInt IntKind.u16.bits m)).toNat < 2 ^ 16 := BitVec.isLt _
  have h2 : clB n m = ((BitVec.ofInt IntKind.u16.bits n &&& ~~~(BitVec.ofInt IntKind.u16.bits m)).toNat : Nat) := wrap16 (by omega)
  omega
theorem bit_test {n : Int} (hn : 0 ≤ n) (x : Nat) : (n / 2 ^ x) % 2 = 1 ↔ n.toNat.testBit x = true := by
  obtain ⟨m, rfl⟩ : ∃ m : Nat, n = m := ⟨n.toNat, by omega⟩
  have hp : ((2 : Int) ^ x) = ((2 ^ x : Nat) : Int) := by push_cast; rfl
  rw [hp, Int.toNat_natCast, Nat.testBit_eq_decide_div_mod_eq, decide_eq_true_iff]
  have e : (((m : Int) / ((2 ^ x : Nat) : Int)) % 2) = ((m / 2 ^ x % 2 : Nat) : Int) := by push_cast; rfl
  rw [e]
  omega
theorem ofInt16 {n : Int} (hn : 0 ≤ n ∧ n < 65536) : (BitVec.ofInt IntKind.u16.bits n).toNat = n.toNat := by
  obtain ⟨m, rfl⟩ : ∃ m : Nat, n = m := ⟨n.toNat, by omega⟩
  rw [BitVec.toNat_ofInt, Int.toNat_natCast]
  show (((m : Nat) : Int) % ((2 ^ 16 : Nat) : Int)).toNat = m
  rw [Int.emod_eq_of_lt (by omega) (by show (m : Int) < 65536; omega), Int.toNat_natCast]
theorem pow_in {j : Nat} (hj : j < 16) : 0 ≤ (2 : Int) ^ j ∧ (2 : Int) ^ j < 65536 ∧ ((2 : Int) ^ j).toNat = 2 ^ j := by
  have hp : ((2 : Int) ^ j) = ((2 ^ j : Nat) : Int) := by push_cast; rfl
  have := two_pow_lt hj
  rw [hp]
  generalize (2 : Nat) ^ j = m at this
  omega
theorem orB_bit {n : Int} (hn : 0 ≤ n ∧ n < 65536) {j : Nat} (hj : j < 16) (x : Nat) : (orB n (2 ^ j) / 2 ^ x) % 2 = 1 ↔ (n / 2 ^ x) % 2 = 1 ∨ x = j := by
  obtain ⟨p1, p2, p3⟩ := pow_in hj
  have hb := orB_b n (2 ^ j)
  have h1 : (BitVec.ofInt IntKind.u16.bits n ||| BitVec.ofInt IntKind.u16.bits (2 ^ j)).toNat < 2 ^ 16 := BitVec.isLt _
  have h2 : orB n (2 ^ j) = ((BitVec.ofInt IntKind.u16.bits n ||| BitVec.ofInt IntKind.u16.bits (2 ^ j)).toNat : Nat) := wrap16 (by omega)
  rw [bit_test hb.1, bit_test hn.1, h2, Int.toNat_natCast, BitVec.toNat_or, ofInt16 hn, ofInt16 ⟨p1, p2⟩, p3, Nat.testBit_or, Nat.testBit_two_pow]
  simp only [Bool.or_eq_true, decide_eq_true_eq]
  exact or_congr Iff.rfl eq_comm
theorem clB_bit {n : Int} (hn : 0 ≤ n ∧ n < 65536) {j : Nat} (hj : j < 16) {x : Nat} (hx : x < 16) : (clB n (2 ^ j) / 2 ^ x) % 2 = 1 ↔ (n / 2 ^ x) % 2 = 1 ∧ x ≠ j := by
  obtain ⟨p1, p2, p3⟩ := pow_in hj
  have hb := clB_b n (2 ^ j)
  have h1 : (BitVec.ofInt IntKind.u16.bits n &&& ~~~(BitVec.ofInt IntKind.u16.bits (2 ^ j))).toNat < 2 ^ 16 := BitVec.isLt _
  have h2 : clB n (2 ^ j) = ((BitVec.ofInt IntKind.u16.bits n &&& ~~~(BitVec.ofInt IntKind.u16.bits (2 ^ j))).toNat : Nat) := wrap16 (by omega)
  have h3 : ∀ v : BitVec IntKind.u16.bits, v.toNat.testBit x = v.getLsbD x := fun v => rfl
  have h4 : (BitVec.ofInt IntKind.u16.bits n).getLsbD x = n.toNat.testBit x := by rw [← h3, ofInt16 hn]
  have h5 : (BitVec.ofInt IntKind.u16.bits (2 ^ j)).getLsbD x = decide (j = x) := by rw [← h3, ofInt16 ⟨p1, p2⟩, p3, Nat.testBit_two_pow]
  rw [bit_test hb.1, bit_test hn.1, h2, Int.toNat_natCast, h3, BitVec.getLsbD_and, BitVec.getLsbD_not, h4, h5]
  have h6 : decide (x < IntKind.u16.bits) = true := decide_eq_true (show x < IntKind.u16.bits from hx)
  rw [h6]
  simp only [Bool.true_and, Bool.and_eq_true, Bool.not_eq_true', decide_eq_false_iff_not]
  exact and_congr Iff.rfl (not_congr eq_comm)
section
variable {Γ : Nat → Option Fn} {dsts : Nat → Option Nat} {ops : List Oper} {Q : St → Prop} {σ : St} {d : Option Nat} {gd : Option (Nat × Bool)} {l1 l2 l3 l4 : List Nat}
theorem WR.orb {a b : Opd} {x y : Int} (hw : wanted dsts σ.env gd = some true) (ha : ev σ.env a = .a (.d (.s (.int .u16 x)))) (hb : ev σ.env b = .a (.d (.s (.int .u16 y))))
    (K : WR Γ dsts ops Q (set d (.a (.d (.s (.int .u16 (orB x y))))) σ)) : WR Γ dsts (⟨d, .bin .or a b, gd, l1, l2, l3, l4⟩ :: ops) Q σ :=
  WR.q hw (by simp only [quiet, ha, hb, bin, isShift, intBin, sv]; rfl) K
theorem WH.orb {a b : Opd} {x y : Int} (hw : wanted dsts (kill l1 (only l3 σ)).env gd = some true) (ha : ev (kill l1 (only l3 σ)).env a = .a (.d (.s (.int .u16 x)))) (hb : ev (kill l1 (only l3 σ)).env b = .a (.d (.s (.int .u16 y))))
    (K : WH Γ dsts ops Q (set d (.a (.d (.s (.int .u16 (orB x y))))) σ)) : WH Γ dsts (⟨d, .bin .or a b, gd, l1, l2, l3, l4⟩ :: ops) Q σ :=
  WH.q hw (by simp only [veil, quiet, ha, hb, bin, isShift, intBin, sv]; rfl) rfl K
theorem WR.clb {a b : Opd} {x y : Int} (hw : wanted dsts σ.env gd = some true) (ha : ev σ.env a = .a (.d (.s (.int .u16 x)))) (hb : ev σ.env b = .a (.d (.s (.int .u16 y))))
    (K : WR Γ dsts ops Q (set d (.a (.d (.s (.int .u16 (clB x y))))) σ)) : WR Γ dsts (⟨d, .bin .andNot a b, gd, l1, l2, l3, l4⟩ :: ops) Q σ :=
  WR.q hw (by simp only [quiet, ha, hb, bin, isShift, intBin, sv]; rfl) K
theorem WH.clb {a b : Opd} {x y : Int} (hw : wanted dsts (kill l1 (only l3 σ)).env gd = some true) (ha : ev (kill l1 (only l3 σ)).env a = .a (.d (.s (.int .u16 x)))) (hb : ev (kill l1 (only l3 σ)).env b = .a (.d (.s (.int .u16 y))))
    (K : WH Γ dsts ops Q (set d (.a (.d (.s (.int .u16 (clB x y))))) σ)) : WH Γ dsts (⟨d, .bin .andNot a b, gd, l1, l2, l3, l4⟩ :: ops) Q σ :=
  WH.q hw (by simp only [veil, quiet, ha, hb, bin, isShift, intBin, sv]; rfl) rfl K
end
def WGood (w h : Int) (g q : Nat → Int) : Prop := WB q ∧ WOk w h g q
theorem WB.set {q : Nat → Int} (hq : WB q) {y : Nat} {v : Int} (hv : 0 ≤ v ∧ v < 65536) : WB (gset q y v) := fun k hk => by
  simp only [gset]
  split
  · exact hv
  · exact hq k hk
theorem WGood.put {q : Nat → Int} (hq : WGood w h g q) {x y : Nat} (hx : x < 16) (hy : y < 10) (hs : Soil w h g ((x : Nat) : Int) ((y : Nat) : Int)) : WGood w h g (gset q y (orB (q y) (2 ^ x))) := by
  refine ⟨hq.1.set (orB_b _ _), fun y' hy' x' hx' hb => ?_⟩
  simp only [bitQ, gset] at hb
  split at hb
  · rename_i e
    subst e
    rcases (orB_bit (hq.1 y' hy') hx x').1 hb with k | k
    · exact hq.2 y' hy' x' hx' k
    · subst k; exact hs
  · exact hq.2 y' hy' x' hx' hb
theorem WGood.clear {q : Nat → Int} (hq : WGood w h g q) {x y : Nat} (hx : x < 16) (hy : y < 10) : WGood w h g (gset q y (clB (q y) (2 ^ x))) := by
  refine ⟨hq.1.set (clB_b _ _), fun y' hy' x' hx' hb => ?_⟩
  simp only [bitQ, gset] at hb
  split at hb
  · rename_i e
    subst e
    exact hq.2 y' hy' x' hx' ((clB_bit (hq.1 y' hy') hx hx').1 hb).1
  · exact hq.2 y' hy' x' hx' hb
def nbP (w h : Int) (q : Nat → Int) (d : Cel) : Prop := Has w h d.1 d.2 ∧ bitQ q d.2.toNat d.1.toNat
instance (w h : Int) (q : Nat → Int) : DecidablePred (nbP w h q) := fun d => inferInstanceAs (Decidable (_ ∧ _))
def nbQ (w h : Int) (q : Nat → Int) (c : Cel) : Int := (((Near c.1 c.2).filter fun d => decide (nbP w h q d)).length : Nat)
def dayS (w h : Int) (need : Int) (q out : Nat → Int) (c : Cel) : Nat → Int := if need ≤ nbQ w h q c then gset out c.2.toNat (orB (out c.2.toNat) (2 ^ c.1.toNat)) else out
def soilC (w h : Int) (g : Nat → Int) : List Cel := those w h fun c => Soil w h g c.1 c.2
def dayQ (w h : Int) (g : Nat → Int) (need : Int) (q : Nat → Int) : Nat → Int := (soilC w h g).foldl (dayS w h need q) q
theorem soilC_mem {c : Cel} (hc : c ∈ soilC w h g) : Soil w h g c.1 c.2 := by
  unfold soilC those at hc
  simpa using (List.mem_filter.1 hc).2
theorem dayS_good (hs : w ≤ 10 ∧ h ≤ 10) {need : Int} {q out : Nat → Int} (ho : WGood w h g out) {c : Cel} (hc : Soil w h g c.1 c.2) : WGood w h g (dayS w h need q out c) := by
  unfold dayS
  split
  · have hH := hc.1
    simp only [Has] at hH
    refine ho.put (x := c.1.toNat) (y := c.2.toNat) (by omega) (by omega) ?_
    rw [show ((c.1.toNat : Nat) : Int) = c.1 by omega, show ((c.2.toNat : Nat) : Int) = c.2 by omega]
    exact hc
  · exact ho
theorem foldDay_good (hs : w ≤ 10 ∧ h ≤ 10) {need : Int} {q : Nat → Int} : ∀ (L : List Cel) {out : Nat → Int}, (∀ c ∈ L, Soil w h g c.1 c.2) → WGood w h g out → WGood w h g (L.foldl (dayS w h need q) out)
  | [], out, _, ho => ho
  | c :: L, out, hL, ho => foldDay_good hs L (fun d hd => hL d (List.mem_cons_of_mem _ hd)) (dayS_good hs ho (hL c (List.mem_cons_self ..)))
theorem dayQ_good (hs : w ≤ 10 ∧ h ≤ 10) {need : Int} {q : Nat → Int} (hq : WGood w h g q) : WGood w h g (dayQ w h g need q) :=
  foldDay_good hs _ (fun c hc => soilC_mem hc) hq
def cutS (w h : Int) (g : Nat → Int) (row : Nat) (hoed : Bool) (q : Nat → Int) (x : Nat) : Nat → Int := if hoed = true ∨ g (10 * row + x) = 0 then gset q row (clB (q row) (2 ^ x)) else q
def cutN (w h : Int) (g : Nat → Int) (row : Nat) (hoed : Bool) (q : Nat → Int) (n : Nat) : Nat → Int := (List.range n).foldl (cutS w h g row hoed) q
def cutQ (w h : Int) (g : Nat → Int) (row : Nat) (hoed : Bool) (q : Nat → Int) : Nat → Int := cutN w h g row hoed q w.toNat
theorem cutN_succ (row : Nat) (hoed : Bool) (q : Nat → Int) (n : Nat) : cutN w h g row hoed q (n + 1) = cutS w h g row hoed (cutN w h g row hoed q n) n := by
  unfold cutN; rw [List.range_succ, List.foldl_append]; rfl
theorem cutN_good {row : Nat} (hr : row < 10) {hoed : Bool} {q : Nat → Int} (hq : WGood w h g q) : ∀ n, n ≤ 10 → WGood w h g (cutN w h g row hoed q n)
  | 0, _ => hq
  | n + 1, hn => by
    rw [cutN_succ]
    have ih := cutN_good hr (hoed := hoed) hq n (by omega)
    unfold cutS
    split
    · exact ih.clear (by omega) hr
    · exact ih
theorem cutQ_good (hs : w ≤ 10) {row : Nat} (hr : row < 10) {hoed : Bool} {q : Nat → Int} (hq : WGood w h g q) : WGood w h g (cutQ w h g row hoed q) := cutN_good hr hq _ (by omega)
def bcN (n : Int) : Nat → Int
  | 0 => 0
  | x + 1 => bcN n x + (n / 2 ^ x) % 2
def cntN (q : Nat → Int) : Nat → Int
  | 0 => 0
  | y + 1 => cntN q y + bcN (q y) 16
def cntQ (q : Nat → Int) : Int := cntN q 10
theorem bcN_b (n : Int) : ∀ x : Nat, 0 ≤ bcN n x ∧ bcN n x ≤ x
  | 0 => by simp [bcN]
  | x + 1 => by
    have := bcN_b n x
    have h2 : 0 ≤ (n / 2 ^ x) % 2 ∧ (n / 2 ^ x) % 2 < 2 := ⟨Int.emod_nonneg _ (by decide), Int.emod_lt_of_pos _ (by decide)⟩
    simp only [bcN]; omega
theorem cntN_b (q : Nat → Int) : ∀ y : Nat, 0 ≤ cntN q y ∧ cntN q y ≤ 16 * y
  | 0 => by simp [cntN]
  | y + 1 => by
    have := cntN_b q y
    have := bcN_b (q y) 16
    simp only [cntN]; omega
theorem cntQ_b (q : Nat → Int) : 0 ≤ cntQ q ∧ cntQ q ≤ 160 := by
  have := cntN_b q 10
  unfold cntQ; omega
def runS (w h : Int) (g : Nat → Int) (need : Int) (s : (Nat → Int) × Int) (r : Int × Bool) : (Nat → Int) × Int :=
  (cutQ w h g r.1.toNat r.2 (dayQ w h g need s.1), s.2 + (cntQ (dayQ w h g need s.1) - cntQ (cutQ w h g r.1.toNat r.2 (dayQ w h g need s.1))))
def runR (w h : Int) (g : Nat → Int) (need : Int) (s : (Nat → Int) × Int) (rs : List (Int × Bool)) : (Nat → Int) × Int := rs.foldl (runS w h g need) s
theorem runS_good (hs : w ≤ 10 ∧ h ≤ 10) {need : Int} {s : (Nat → Int) × Int} (hq : WGood w h g s.1) {r : Int × Bool} (hr : r.1.toNat < 10) : WGood w h g (runS w h g need s r).1 :=
  cutQ_good hs.1 hr (dayQ_good hs hq)
theorem runR_good (hs : w ≤ 10 ∧ h ≤ 10) {need : Int} : ∀ (rs : List (Int × Bool)) {s : (Nat → Int) × Int}, WGood w h g s.1 → (∀ r ∈ rs, r.1.toNat < 10) → WGood w h g (runR w h g need s rs).1
  | [], _, hq, _ => hq
  | r :: rs, _, hq, hr => runR_good hs rs (runS_good hs hq (hr r (List.mem_cons_self ..))) fun x hx => hr x (List.mem_cons_of_mem _ hx)
theorem runR_b {need : Int} : ∀ (rs : List (Int × Bool)) {s : (Nat → Int) × Int}, s.2 - 160 * rs.length ≤ (runR w h g need s rs).2 ∧ (runR w h g need s rs).2 ≤ s.2 + 160 * rs.length
  | [], s => by simp [runR]
  | r :: rs, s => by
    have ih := runR_b (need := need) rs (s := runS w h g need s r)
    have h1 := cntQ_b (dayQ w h g need s.1)
    have h2 := cntQ_b (cutQ w h g r.1.toNat r.2 (dayQ w h g need s.1))
    have e : (runS w h g need s r).2 = s.2 + (cntQ (dayQ w h g need s.1) - cntQ (cutQ w h g r.1.toNat r.2 (dayQ w h g need s.1))) := rfl
    have e2 : runR w h g need s (r :: rs) = runR w h g need (runS w h g need s r) rs := rfl
    rw [e2, List.length_cons]
    omega
def planS (f : Nat → List Int × Int) (s : List Int × Int) (row : Nat) : List Int × Int := if s.2 < 0 ∨ (f row).2 < s.2 then ((row : Int) :: (f row).1, (f row).2) else s
def planF (f : Nat → List Int × Int) (n : Nat) : List Int × Int := (List.range n).foldl (planS f) ([], -1)
theorem planF_succ (f : Nat → List Int × Int) (n : Nat) : planF f (n + 1) = planS f (planF f n) n := by
  unfold planF; rw [List.range_succ, List.foldl_append]; rfl
def planQ (w h : Int) (g : Nat → Int) (need : Int) : Nat → (Nat → Int) → List Int × Int
  | 0, q => ([], cntQ q)
  | k + 1, q => planF (fun row => planQ w h g need k (cutQ w h g row false (dayQ w h g need q))) h.toNat
theorem planF_told {f : Nat → List Int × Int} (hf : ∀ k, 0 ≤ (f k).2) : ∀ n, (n = 0 ∧ planF f n = ([], -1)) ∨ (∃ k : Nat, k < n ∧ planF f n = ((k : Int) :: (f k).1, (f k).2) ∧ ∀ j, j < n → (f k).2 ≤ (f j).2)
  | 0 => .inl ⟨rfl, rfl⟩
  | n + 1 => by
    rw [planF_succ]
    refine .inr ?_
    rcases planF_told hf n with ⟨rfl, e⟩ | ⟨k, hk, e, h1⟩
    · rw [e]
      refine ⟨0, by omega, by simp [planS], fun j hj => ?_⟩
      obtain rfl : j = 0 := by omega
      exact Int.le_refl _
    · rw [e]
      have hk0 := hf k
      unfold planS
      split
      · rename_i hh
        have hlt : (f n).2 < (f k).2 := by simp only at hh; omega
        refine ⟨n, by omega, rfl, fun j hj => ?_⟩
        by_cases e2 : j = n
        · subst e2; exact Int.le_refl _
        · have := h1 j (by omega); omega
      · rename_i hh
        refine ⟨k, by omega, rfl, fun j hj => ?_⟩
        by_cases e2 : j = n
        · subst e2; simp only at hh; omega
        · exact h1 j (by omega)
def asR (rows : List Int) : List (Int × Bool) := rows.map fun r => (r, false)
theorem planQ_b (hh : 1 ≤ h) (need : Int) : ∀ (k : Nat) (q : Nat → Int), 0 ≤ (planQ w h g need k q).2 ∧ (planQ w h g need k q).2 ≤ 160 ∧ (planQ w h g need k q).1.length = k ∧ ∀ r ∈ (planQ w h g need k q).1, 0 ≤ r ∧ r < h
  | 0, q => by
    have := cntQ_b q
    simp only [planQ]
    exact ⟨this.1, this.2, rfl, fun r hr => by cases hr⟩
  | k + 1, q => by
    have ih := fun row => planQ_b hh need k (cutQ w h g row false (dayQ w h g need q))
    rcases planF_told (f := fun row => planQ w h g need k (cutQ w h g row false (dayQ w h g need q))) (fun row => (ih row).1) h.toNat with ⟨h0, _⟩ | ⟨j, hj, e, _⟩
    · omega
    · rw [planQ, e]
      have hi := ih j
      refine ⟨hi.1, hi.2.1, by simp [hi.2.2.1], fun r hr => ?_⟩
      rcases List.mem_cons.1 hr with rfl | hr
      · omega
      · exact hi.2.2.2 r hr
theorem planQ_least (hh : 1 ≤ h) (need : Int) : ∀ (k : Nat) (q : Nat → Int) (n : Int) (rows : List Int), rows.length = k → (∀ r ∈ rows, 0 ≤ r ∧ r < h) → (planQ w h g need k q).2 ≤ cntQ (runR w h g need (q, n) (asR rows)).1
  | 0, q, n, rows, hl, _ => by
    obtain rfl := List.length_eq_zero_iff.1 hl
    exact Int.le_refl _
  | k + 1, q, n, rows, hl, hr => by
    cases rows with
    | nil => simp at hl
    | cons r rows =>
      rcases planF_told (f := fun row => planQ w h g need k (cutQ w h g row false (dayQ w h g need q))) (fun row => (planQ_b hh need k _).1) h.toNat with ⟨h0, _⟩ | ⟨j, hj, e, hm⟩
      · omega
      · have e2 : planQ w h g need (k + 1) q = _ := e
        rw [e2]
        have hr0 := hr r (List.mem_cons_self ..)
        have ih := planQ_least hh need k (cutQ w h g r.toNat false (dayQ w h g need q)) (runS w h g need (q, n) (r, false)).2 rows (by simpa using hl) (fun x hx => hr x (List.mem_cons_of_mem _ hx))
        have h1 := hm r.toNat (by omega)
        exact Int.le_trans h1 ih
end Go.DM

/- Functions of numbers that came as data; lists of numbers put behind each other. -/
set_option maxHeartbeats 4000000
namespace Go.DM
variable [Tok]
open Go.IntWalk
def HoldsI (Γ : Nat → Option Fn) (x : D) (P : Int → Prop) [DecidablePred P] (dom : Int → Prop) : Prop :=
  ∃ f fn pre post, x = .clo f pre post ∧ Γ f = some fn ∧ fn.muts = [] ∧ ∀ n, dom n → Gives Γ f (pre.map .d ++ [ai .i64 n] ++ post.map .d) (rb (decide (P n)))
section
variable {Γ : Nat → Option Fn} {dsts : Nat → Option Nat} {ops : List Oper} {Q : St → Prop} {σ : St} {d : Option Nat} {g : Option (Nat × Bool)} {l1 l2 l3 l4 : List Nat}
theorem holdsI_call {x : D} {P : Int → Prop} [DecidablePred P] {dom : Int → Prop} (hx : HoldsI Γ x P dom) {a b : Opd} {n : Int} {e : Nat} {σ : St} (ha : ev σ.env a = .a (.d x)) (hb : ev σ.env b = .a (.d (.s (.int .i64 n)))) (hd : dom n) :
    ∃ f fn vs as, callee σ (.callv a [b]) = some (f, vs) ∧ Γ f = some fn ∧ mutIds fn.muts vs = [] ∧ args σ [] fn.muts vs = some as ∧ Gives Γ f as (rb (decide (P n))) ∧ backs σ fn.muts vs [] = some [] := by
  obtain ⟨f, fn, pre, post, rfl, h1, h2, h3⟩ := hx
  refine ⟨f, fn, _, _, by simp [callee, ha, hb]; rfl, h1, ?_, ?_, h3 _ hd, ?_⟩
  · rw [h2]
    cases h : (pre.map (fun x => V.a (.d x)) ++ _ : List V) <;> rfl
  · rw [h2]
    have h0 : args σ [] [] (post.map fun x => V.a (.d x)) = some (post.map .d) := by
      have := args_pre σ post [] [] args_nil
      simpa using this
    have h4 := args_d (σ := σ) (ids := []) (v := .a (.d (.s (.int .i64 n)))) (toD_d rfl) h0
    have h5 := args_pre σ pre _ _ h4
    simpa using h5
  · rw [h2]; exact backs_no
theorem WR.vi {x : D} {P : Int → Prop} [DecidablePred P] {dom : Int → Prop} (hx : HoldsI Γ x P dom) {a b : Opd} {n : Int} {e : Nat} (hw : wanted dsts σ.env g = some true) (ha : ev σ.env a = .a (.d x)) (hb : ev σ.env b = .a (.d (.s (.int .i64 n)))) (hd : dom n)
    (k1 : P n → WR Γ dsts ops Q (set (some e) (.a (.d (.s (.bool true)))) σ)) (k2 : ¬ P n → WR Γ dsts ops Q (set (some e) (.a (.d (.s (.bool false)))) σ)) : WR Γ dsts (⟨some e, .callv a [b], g, l1, l2, l3, l4⟩ :: ops) Q σ := by
  obtain ⟨f, fn, vs, as, h1, h2, h3, h4, h5, h6⟩ := holdsI_call (e := e) hx ha hb hd
  refine WR.call (d := e) (v := .a (.d (.s (.bool (decide (P n)))))) (ps := []) (ns := []) hw rfl h1 h2 (by rw [h3]; rfl) (by rw [h3]; exact h4) h5 h6 rfl rfl rfl ?_
  simp only [List.append_nil, List.map_nil, insertAll, kill_nil]
  by_cases h : P n
  · simp only [h, decide_true]; exact k1 h
  · simp only [h, decide_false]; exact k2 h
theorem WR.rn1 {p n e : Nat} {a : Opd} {cs : List S} (hw : wanted dsts σ.env g = some true) (ha : ev σ.env a = .a (.sl p 0 n 1)) (ho : σ.objs p = some (.flat false cs)) (hne : Nat.beq p e = false) (hp : noPar σ [p] = true) (hp' : noPar σ [e] = true)
    (k : WR Γ dsts ops Q (set (some e) (.a (.sl e 0 n 1)) (put e (.flat false cs) (kill [p, e] σ)))) : WR Γ dsts (⟨some e, .ren a, g, l1, l2, l3, l4⟩ :: ops) Q σ := by
  have hne' : p ≠ e := Nat.ne_of_beq_eq_false hne
  refine WR.cons ⟨0, step_dl (r := ⟨.a (.sl e 0 n 1), [p, e], [(e, .flat false cs)]⟩) hw (by simp only [delta, ha, ho]; rw [if_neg hne']) ?_⟩ k
  simp only [noPar, List.all_cons, List.all_nil, Bool.and_true, Bool.and_eq_true] at hp hp' ⊢
  exact ⟨hp, hp'⟩
theorem elems_own {σ : St} {o : Nat} {b : Bool} {ik : IntKind} {L : List Int} (ho : σ.objs o = some (.flat b (encI ik L))) : elems σ.objs 1 (.a (.sl o 0 L.length 1)) = some (L.length, encI ik L) := by
  have hl := encI_length ik L
  simp only [elems, ho]
  rw [if_pos ⟨trivial, by omega⟩, List.drop_zero, List.take_of_length_le (by omega)]
theorem WR.apL {p : Nat} {a b : Opd} {ik : IntKind} {l m : List Int} (hw : wanted dsts σ.env g = some true) (ha : ev σ.env a = .a (.sl p 0 l.length 1)) (ho : σ.objs p = some (.flat false (encI ik l))) (hb : elems σ.objs 1 (ev σ.env b) = some (m.length, encI ik m)) (h2 : l.length + m.length ≤ 100000)
    (k : WR Γ dsts ops Q (set d (.a (.sl p 0 (l ++ m).length 1)) (put p (.flat false (encI ik (l ++ m))) (kill [p] σ)))) : WR Γ dsts (⟨d, .app 1 a b, g, l1, l2, l3, l4⟩ :: ops) Q σ := by
  refine WR.cons ⟨0, step_dl (r := ⟨.a (.sl p 0 (l ++ m).length 1), [p], [(p, .flat false (encI ik (l ++ m)))]⟩) hw ?_ (by rw [noPar_one]; intro cs e; rw [ho] at e; cases e)⟩ k
  have hl := encI_length ik l
  simp only [delta, append, ha, hb, ho]
  rw [if_pos ⟨trivial, by omega, by simp only [big]; omega⟩, encI_append, List.length_append, List.drop_zero, List.take_of_length_le (by omega)]
end
end Go.DM
