/- Rounds marked, the marks read again; the reference's numbers. -/
import Derived.Test.YtppmmeciihmnjaaDoorK282RowsPure
import Derived.Test.YtppmmeciihmnjaaDoorK282Rows
set_option linter.unusedSimpArgs false
set_option linter.unusedVariables false
set_option maxHeartbeats 4000000
namespace Go.DM
open Go.IntWalk
theorem encO_setx : ∀ {l : List Rnd} {k : Nat} (x : Int), k < l.length → (encO l).set (k * 2) (.int .i8 x) = encO (l.set k (x, (gO l k).2))
  | [], k, x, h => by simp at h
  | a :: l, 0, x, h => rfl
  | a :: l, k + 1, x, h => by
    have := encO_setx (l := l) (k := k) x (by simpa using h)
    rw [show (k + 1) * 2 = k * 2 + 1 + 1 by omega]
    simp only [encO, List.set_cons_succ, this]
    rfl
theorem encO_sety : ∀ {l : List Rnd} {k : Nat} (y : Bool), k < l.length → (encO l).set (k * 2 + 1) (.bool y) = encO (l.set k ((gO l k).1, y))
  | [], k, y, h => by simp at h
  | a :: l, 0, y, h => rfl
  | a :: l, k + 1, y, h => by
    have := encO_sety (l := l) (k := k) y (by simpa using h)
    rw [show (k + 1) * 2 + 1 = k * 2 + 1 + 1 + 1 by omega]
    simp only [encO, List.set_cons_succ, this]
    rfl
theorem stOx {p : Bool} {l : List Rnd} {k : Nat} {x : Int} (h : k < l.length) : storeO 1 (.a (.d (.s (.int .i8 x)))) (0 + k * 2 + 0) (.flat p (encO l)) = some (.flat p (encO (l.set k (x, (gO l k).2)))) := by
  rw [storeAt (k := k * 2) (by rw [encO_length]; omega) (by omega), encO_setx x h]
theorem stOy {p : Bool} {l : List Rnd} {k : Nat} {y : Bool} (h : k < l.length) : storeO 1 (.a (.d (.s (.bool y)))) (0 + k * 2 + 1) (.flat p (encO l)) = some (.flat p (encO (l.set k ((gO l k).1, y)))) := by
  rw [storeAt (k := k * 2 + 1) (by rw [encO_length]; omega) (by omega), encO_sety y h]
def marksR (k : Int) (n : Nat) : List Rnd := (List.range n).map fun i => (k + 2 * (i : Nat), decide ((k + 2 * (i : Nat) + 1) % 3 = 0))
theorem marksR_len (k : Int) (n : Nat) : (marksR k n).length = n := by simp [marksR]
theorem marksR_get {k : Int} {n i : Nat} (h : i < n) : (marksR k n)[i]? = some (k + 2 * (i : Nat), decide ((k + 2 * (i : Nat) + 1) % 3 = 0)) := by simp [marksR, h]
theorem marksR_gO {k : Int} {n i : Nat} (h : i < n) : gO (marksR k n) i = (k + 2 * (i : Nat), decide ((k + 2 * (i : Nat) + 1) % 3 = 0)) := by
  simp [gO, List.getD_eq_getElem?_getD, marksR_get h]
/-! The reference's numbers: ten digits at most. -/
def numV (s : List UInt8) : Int := s.foldl (fun n b => 10 * n + ((b.toNat : Int) - 48)) 0
theorem numV_snoc (s : List UInt8) (b : UInt8) : numV (s ++ [b]) = 10 * numV s + ((b.toNat : Int) - 48) := by simp [numV, List.foldl_append]
def DigL (s : List UInt8) : Prop := ∀ i, i < s.length → 48 ≤ gB s i ∧ gB s i ≤ 57
instance (s : List UInt8) : Decidable (DigL s) := inferInstanceAs (Decidable (∀ i, i < s.length → _))
def NumOk (s : List UInt8) : Prop := (s ≠ [] ∧ s.length ≤ 10 ∧ ¬ (gB s 0 = 48 ∧ 1 < s.length)) ∧ DigL s
instance (s : List UInt8) : Decidable (NumOk s) := inferInstanceAs (Decidable ((_ ∧ _ ∧ ¬ _) ∧ _))
theorem pow10_le {i : Nat} (h : i ≤ 9) : (10 : Int) ^ i ≤ 1000000000 := by
  have : i = 0 ∨ i = 1 ∨ i = 2 ∨ i = 3 ∨ i = 4 ∨ i = 5 ∨ i = 6 ∨ i = 7 ∨ i = 8 ∨ i = 9 := by omega
  rcases this with rfl | rfl | rfl | rfl | rfl | rfl | rfl | rfl | rfl | rfl <;> decide
def numR (s : List UInt8) : Res := if NumOk s then ⟨[.s (.int .i64 (numV s)), .s (.bool true)], []⟩ else ⟨[.s (.int .i64 0), .s (.bool false)], []⟩
theorem gB_b (s : List UInt8) (i : Nat) : 0 ≤ gB s i ∧ gB s i ≤ 255 := by
  have := (s.getD i 0).toNat_lt
  unfold gB; omega
theorem gB_zero (s : List UInt8) : gB s (Int.toNat 0) = gB s 0 := rfl
theorem take_snoc {s : List UInt8} {i : Nat} (h : i < s.length) : s.take (i + 1) = s.take i ++ [s.getD i 0] := by
  rw [List.take_add_one, List.getElem?_eq_getElem h]
  simp [List.getD_eq_getElem?_getD, h]
theorem l01Number_gives (s : List UInt8) (hs : s.length ≤ 2000000) : Gives G 315 [.d (.s (.str s))] (numR s) := by
  refine Gives.by rfl rfl (W.seq ?_)
  by_cases h0 : s = []
  · subst h0
    have hr : numR [] = ⟨[.s (.int .i64 0), .s (.bool false)], []⟩ := if_neg fun h => h.1.1 rfl
    rw [hr]
    repeat' first | ((with_reducible apply WR.mv); exact rfl; exact rfl) | ((with_reducible apply WR.off); exact rfl) | ((with_reducible apply WR.pk); exact rfl; exact rfl) | ((with_reducible apply WR.gtr); exact rfl; exact rfl; exact rfl) | ((with_reducible apply WR.le); exact rfl; exact rfl) | ((with_reducible apply WR.nil)) | (with_reducible refine andThen_n ?_) | (with_reducible refine andThen_r ?_) | (with_reducible refine W.seq ?_) | (with_reducible refine W.region ?_) | (with_reducible refine W.ret ?_) | ((with_reducible apply W.condT); exact rfl) | ((with_reducible apply Done.f); (intro hh hh2; exact (nomatch hh2)); (focus ((repeat' first | exact all_nil | apply all_cons | exact res_tmp rfl); done)); (focus ((repeat' first | exact all_nil | apply all_cons | exact retOf_s rfl); done)); exact rfl; (focus ((repeat' first | exact outs_nil | apply outs_d); done))) | (intro hb; try (exfalso; omega)) | ((with_reducible apply WR.seq_); exact rfl; exact rfl; exact rfl)
    all_goals first
      | (exfalso; exact absurd rfl (by assumption))
      | rfl
  · have hp : 0 < s.length := List.length_pos_iff.2 h0
    by_cases h1 : s.length ≤ 10 ∧ ¬ (gB s 0 = 48 ∧ 1 < s.length)
    · repeat' first | ((with_reducible apply WR.mv); exact rfl; exact rfl) | ((with_reducible apply WR.off); exact rfl) | ((with_reducible apply WR.ist); exact rfl; exact rfl; exact rfl; (first | omega)) | ((with_reducible apply WR.pk); exact rfl; exact rfl) | ((with_reducible apply WR.gtr); exact rfl; exact rfl; exact rfl) | ((with_reducible apply WR.le); exact rfl; exact rfl) | ((with_reducible apply WR.nil)) | (with_reducible refine andThen_n ?_) | (with_reducible refine andThen_r ?_) | (with_reducible refine W.seq ?_) | (with_reducible refine W.region ?_) | (with_reducible refine W.skip ?_) | (with_reducible refine W.ret ?_) | (with_reducible refine W.block ?_) | ((with_reducible apply W.condT); exact rfl) | ((with_reducible apply W.condF); exact rfl) | ((with_reducible apply Done.f); (intro hh hh2; exact (nomatch hh2)); (focus ((repeat' first | exact all_nil | apply all_cons | exact res_tmp rfl); done)); (focus ((repeat' first | exact all_nil | apply all_cons | exact retOf_s rfl); done)); exact rfl; (focus ((repeat' first | exact outs_nil | apply outs_d); done))) | (intro hb; try (exfalso; omega)) | ((with_reducible apply WR.seq_); exact rfl; exact rfl; exact rfl) | ((with_reducible apply WR.eql); exact rfl; exact rfl; exact rfl)
      all_goals try simp only [gB_zero, Int.toNat_zero, Int.toNat_natCast] at *
      all_goals try (exfalso; first | omega | exact h0 (by assumption))
      all_goals
        (refine (?_ : W _ (Code.loop _) _ _))
        (refine W.loopM [0] [] [] (fun zz : (Nat) × (Int) => match zz with | (i, n) => (s.length - i : Nat)) (fun zz : (Nat) × (Int) => match zz with | (i, n) => (i ≤ s.length ∧ n = numV (s.take i) ∧ (∀ j, j < i → 48 ≤ gB s j ∧ gB s j ≤ 57) ∧ 0 ≤ n ∧ n < 10 ^ i : Prop)) (fun zz : (Nat) × (Int) => match zz with | (i, n) => [(5, .a (.d (.s (.int .i64 (i : Nat))))), (4, .a (.d (.s (.int .i64 n))))]) (fun zz : (Nat) × (Int) => match zz with | (i, n) => []) (0, 0) (⟨by omega, rfl, fun j hj => by omega, by omega, by show (0 : Int) < 10 ^ 0; decide⟩) ⟨rfl, rfl, trivial⟩ trivial trivial ?_)
        rintro ⟨i, n⟩ σ hP hN; dsimp only [setL, putL] at hP ⊢
        obtain ⟨hi, hn, hd, hn0, hn1⟩ := hP
        have hB := gB_b s i
        have hE : gB s ((i : Int)).toNat = gB s i := rfl
        by_cases hil : i < s.length
        · have hp10 := pow10_le (i := i) (by omega)
          by_cases hdi : 48 ≤ gB s i ∧ gB s i ≤ 57
          · repeat' first | ((with_reducible apply WR.mv); exact rfl; exact rfl) | ((with_reducible apply WR.ist); exact rfl; exact rfl; exact rfl; (first | omega)) | ((with_reducible apply WR.pk); exact rfl; exact rfl) | ((with_reducible apply WR.gtr); exact rfl; exact rfl; exact rfl) | ((with_reducible apply WR.le); exact rfl; exact rfl) | ((with_reducible apply WR.nil)) | (with_reducible refine andThen_n ?_) | (with_reducible refine inB_n ?_) | (with_reducible refine W.seq ?_) | (with_reducible refine W.region ?_) | (with_reducible refine W.skip ?_) | (with_reducible refine W.block ?_) | ((with_reducible apply W.condT); exact rfl) | ((with_reducible apply W.condF); exact rfl) | (intro hb; try (exfalso; omega)) | ((with_reducible apply WR.lss); exact rfl; exact rfl; exact rfl) | ((with_reducible apply WR.ad); exact rfl; exact rfl; exact rfl; (first | exact i64_in _ (by omega) | exact u8_in _ (by omega))) | ((with_reducible apply WR.cv); exact rfl; exact rfl; (first | exact i64_in _ (by omega) | exact u8_in _ (by omega))) | ((with_reducible apply WR.sb); exact rfl; exact rfl; exact rfl; (first | exact i64_in _ (by omega) | exact u8_in _ (by omega))) | ((with_reducible apply WR.ml); exact rfl; exact rfl; exact rfl; (first | exact i64_in _ (by omega) | exact u8_in _ (by omega)))
            all_goals try (exfalso; omega)
            (refine W.nxt ((i + 1, 10 * n + (gB s i - 48))) (by first | omega | (dsimp only; omega)) ?_ ⟨rfl, rfl, trivial⟩ trivial ⟨rfl, trivial⟩ trivial trivial); (try dsimp only)
            refine ⟨by omega, ?_, fun j hj => ?_, by omega, ?_⟩
            · rw [take_snoc hil, numV_snoc, hn]; rfl
            · by_cases e : j = i
              · subst e; exact hdi
              · exact hd j (by omega)
            · rw [Int.pow_succ]; omega
          · have hr : numR s = ⟨[.s (.int .i64 0), .s (.bool false)], []⟩ := if_neg fun h => hdi (h.2 i hil)
            rw [hr]
            repeat' first | ((with_reducible apply WR.mv); exact rfl; exact rfl) | ((with_reducible apply WR.off); exact rfl) | ((with_reducible apply WR.ist); exact rfl; exact rfl; exact rfl; (first | omega)) | ((with_reducible apply WR.pk); exact rfl; exact rfl) | ((with_reducible apply WR.gtr); exact rfl; exact rfl; exact rfl) | ((with_reducible apply WR.le); exact rfl; exact rfl) | ((with_reducible apply WR.nil)) | (with_reducible refine andThen_n ?_) | (with_reducible refine andThen_r ?_) | (with_reducible refine inB_r ?_) | (with_reducible refine W.seq ?_) | (with_reducible refine W.region ?_) | (with_reducible refine W.skip ?_) | (with_reducible refine W.ret ?_) | (with_reducible refine W.block ?_) | ((with_reducible apply W.condT); exact rfl) | ((with_reducible apply Done.f); (intro hh hh2; exact (nomatch hh2)); (focus ((repeat' first | exact all_nil | apply all_cons | exact res_tmp rfl); done)); (focus ((repeat' first | exact all_nil | apply all_cons | exact retOf_s rfl); done)); exact rfl; (focus ((repeat' first | exact outs_nil | apply outs_d); done))) | (intro hb; try (exfalso; omega)) | ((with_reducible apply WR.lss); exact rfl; exact rfl; exact rfl)
            all_goals first
              | rfl
              | (exfalso; omega)
        · obtain rfl : i = s.length := by omega
          rw [List.take_of_length_le (by omega)] at hn
          have hr : numR s = ⟨[.s (.int .i64 (numV s)), .s (.bool true)], []⟩ := if_pos ⟨⟨h0, h1.1, h1.2⟩, hd⟩
          rw [hr, ← hn]
          repeat' first | ((with_reducible apply WR.mv); exact rfl; exact rfl) | ((with_reducible apply WR.le); exact rfl; exact rfl) | ((with_reducible apply WR.nil)) | (with_reducible refine andThen_n ?_) | (with_reducible refine andThen_x ?_) | (with_reducible refine inB_x ?_) | (with_reducible refine W.seq ?_) | (with_reducible refine W.region ?_) | (with_reducible refine W.ret ?_) | (with_reducible refine W.exit ?_) | ((with_reducible apply W.condF); exact rfl) | ((with_reducible apply Done.f); (intro hh hh2; exact (nomatch hh2)); (focus ((repeat' first | exact all_nil | apply all_cons | exact res_tmp rfl); done)); (focus ((repeat' first | exact all_nil | apply all_cons | exact retOf_s rfl); done)); exact rfl; (focus ((repeat' first | exact outs_nil | apply outs_d); done))) | (intro hb; try (exfalso; omega)) | ((with_reducible apply WR.lss); exact rfl; exact rfl; exact rfl)
          rfl
    · have hr : numR s = ⟨[.s (.int .i64 0), .s (.bool false)], []⟩ := if_neg fun h => h1 h.1.2
      rw [hr]
      repeat' first | ((with_reducible apply WR.mv); exact rfl; exact rfl) | ((with_reducible apply WR.off); exact rfl) | ((with_reducible apply WR.ist); exact rfl; exact rfl; exact rfl; (first | omega)) | ((with_reducible apply WR.pk); exact rfl; exact rfl) | ((with_reducible apply WR.gtr); exact rfl; exact rfl; exact rfl) | ((with_reducible apply WR.le); exact rfl; exact rfl) | ((with_reducible apply WR.nil)) | (with_reducible refine andThen_n ?_) | (with_reducible refine andThen_r ?_) | (with_reducible refine W.seq ?_) | (with_reducible refine W.region ?_) | (with_reducible refine W.skip ?_) | (with_reducible refine W.ret ?_) | (with_reducible refine W.block ?_) | ((with_reducible apply W.condT); exact rfl) | ((with_reducible apply W.condF); exact rfl) | ((with_reducible apply Done.f); (intro hh hh2; exact (nomatch hh2)); (focus ((repeat' first | exact all_nil | apply all_cons | exact res_tmp rfl); done)); (focus ((repeat' first | exact all_nil | apply all_cons | exact retOf_s rfl); done)); exact rfl; (focus ((repeat' first | exact outs_nil | apply outs_d); done))) | (intro hb; try (exfalso; omega)) | ((with_reducible apply WR.seq_); exact rfl; exact rfl; exact rfl) | ((with_reducible apply WR.eql); exact rfl; exact rfl; exact rfl)
      all_goals try simp only [gB_zero, Int.toNat_zero, Int.toNat_natCast] at *
      all_goals first
        | rfl
        | (exfalso; omega)
        | (exfalso; exact h0 (by assumption))
end Go.DM
