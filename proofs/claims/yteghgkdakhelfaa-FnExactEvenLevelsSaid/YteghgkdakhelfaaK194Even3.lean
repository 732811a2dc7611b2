/- Levels made even: sums. -/
import Derived.Test.YteghgkdakhelfaaK194Even
import Derived.Test.YteghgkdakhelfaaK194More
set_option linter.unusedSimpArgs false
set_option linter.unusedVariables false
set_option maxHeartbeats 4000000
namespace Go.DM
open Go.IntWalk
variable {w h : Int} {g : Nat → Int} {cs : List S} {q : Nat → Int} {qs : List S}
def sumL (f : Cel → Int) : List Cel → Int
  | [] => 0
  | c :: r => f c + sumL f r
theorem sumL_snoc (f : Cel → Int) (c : Cel) : ∀ L : List Cel, sumL f (L ++ [c]) = sumL f L + f c
  | [] => by simp [sumL]
  | d :: r => by simp only [List.cons_append, sumL, sumL_snoc f c r]; omega
theorem sumL_b {f : Cel → Int} {k : Int} : ∀ {L : List Cel}, (∀ c ∈ L, -k ≤ f c ∧ f c ≤ k) → -(k * L.length) ≤ sumL f L ∧ sumL f L ≤ k * L.length
  | [], _ => by simp [sumL]
  | c :: r, h => by
    have ih := sumL_b (L := r) fun d hd => h d (List.mem_cons_of_mem _ hd)
    have h1 := h c (List.mem_cons_self ..)
    rw [List.length_cons, Int.natCast_add, Int.mul_add]
    simp only [sumL]
    constructor <;> simp <;> omega
theorem sumL_filter {f : Cel → Int} {p : Cel → Bool} : ∀ {L : List Cel}, (∀ c ∈ L, p c = false → f c = 0) → sumL f (L.filter p) = sumL f L
  | [], _ => rfl
  | c :: r, h => by
    have ih := sumL_filter (L := r) fun d hd => h d (List.mem_cons_of_mem _ hd)
    cases hp : p c with
    | true => rw [List.filter_cons_of_pos hp]; simp only [sumL, ih]
    | false => rw [List.filter_cons_of_neg (by simp [hp])]; simp only [sumL, ih, h c (List.mem_cons_self ..) hp]; omega
theorem sumL_ins {f : Cel → Int} {key : Cel → Int} {c : Cel} : ∀ {L : List Cel}, sumL f (ins key c L) = f c + sumL f L
  | [] => rfl
  | d :: r => by
    unfold ins
    split
    · rfl
    · simp only [sumL, sumL_ins]; omega
theorem sumL_srt {f : Cel → Int} {key : Cel → Int} : ∀ {L : List Cel}, sumL f (srt key L) = sumL f L
  | [] => rfl
  | c :: r => by rw [srt, sumL_ins, sumL_srt]; rfl
theorem mem_allCE {c : Cel} (hc : Has w h c.1 c.2) : c ∈ allC w h := by
  unfold Has at hc
  unfold allC cellsTo
  rw [List.mem_map]
  refine ⟨c.2.toNat * w.toNat + c.1.toNat, ?_, ?_⟩
  · rw [List.mem_range]
    have h1 : c.2.toNat * w.toNat + w.toNat ≤ h.toNat * w.toNat := by
      rw [← Nat.succ_mul]; exact Nat.mul_le_mul_right _ (by omega)
    rw [Nat.mul_comm w.toNat]; omega
  · have e1 : (c.2.toNat * w.toNat + c.1.toNat) % w.toNat = c.1.toNat := by rw [Nat.mul_comm, Nat.mul_add_mod, Nat.mod_eq_of_lt (by omega)]
    have e2 : (c.2.toNat * w.toNat + c.1.toNat) / w.toNat = c.2.toNat := by rw [Nat.mul_comm, Nat.mul_add_div (by omega), Nat.div_eq_of_lt (by omega)]; rfl
    exact Prod.ext (by show (((c.2.toNat * w.toNat + c.1.toNat) % w.toNat : Nat) : Int) = _; rw [e1]; omega) (by show (((c.2.toNat * w.toNat + c.1.toNat) / w.toNat : Nat) : Int) = _; rw [e2]; omega)
theorem all_filter (hs : w ≤ 10 ∧ h ≤ 10) : (allC 10 10).filter (fun c => decide (Has w h c.1 c.2)) = allC w h := by
  have o1 : Srt (fun c => (kC c : Int)) (allC w h) := (all_order hs).imp fun {a b} h => by show ((kC a : Nat) : Int) < ((kC b : Nat) : Int); omega
  have o2 : Srt (fun c => (kC c : Int)) ((allC 10 10).filter (fun c => decide (Has w h c.1 c.2))) := ((all_order (w := 10) (h := 10) (by omega)).sublist List.filter_sublist).imp fun {a b} h => by show ((kC a : Nat) : Int) < ((kC b : Nat) : Int); omega
  refine srt_uniq o2 o1 fun c => ?_
  rw [List.mem_filter]
  constructor
  · rintro ⟨h1, h2⟩
    have h3 : Has w h c.1 c.2 := by simpa using h2
    exact mem_allCE h3
  · intro h1
    have h2 := allC_mem h1
    exact ⟨mem_allCE (by unfold Has at h2 ⊢; omega), by simpa using h2⟩
theorem sum_all (hv : LevOk w h g q) : sumL (lv q) (allC 10 10) = sumL (lv q) (allC w h) ∧ sumL (lv q) (allC w h) = sumL (lv q) (ofKind w h g 0) := by
  have hz := hv.1.1; have hz2 := hv.1.2.1
  refine ⟨?_, ?_⟩
  · rw [← all_filter (w := w) (h := h) (by omega)]
    refine (sumL_filter fun c hc hp => ?_).symm
    have h9 := allC_mem hc
    have h1 := (hv.2 (10 * c.2.toNat + c.1.toNat) (by unfold Has at h9; omega)).2
    rcases h1 with h1 | ⟨h1, h2, _⟩
    · exact h1
    · exfalso
      have h3 : ¬ Has w h c.1 c.2 := by simpa using hp
      unfold Has at h9 h3; omega
  · unfold ofKind
    refine (sumL_filter fun c hc hp => ?_).symm
    have h9 := allC_mem hc
    have h1 := (hv.2 (10 * c.2.toNat + c.1.toNat) (by unfold Has at h9; omega)).2
    rcases h1 with h1 | ⟨_, _, h1⟩
    · exact h1
    · exfalso
      have h3 : ¬ g (ix c) = 0 := by simpa using hp
      exact h3 h1
theorem sum_gives (l : IsLawn w h g cs) (v : IsLev q qs) (hs : 0 ≤ w ∧ w ≤ 10 ∧ 0 ≤ h ∧ h ≤ 10) (h9 : ∀ c ∈ allC w h, -9 ≤ lv q c ∧ lv q c ≤ 9) : Gives G 208 [aa cs, aa qs] (ri .i64 (sumL (lv q) (allC w h))) := by
  have hall := all_gives l hs
  have hal := allC_len (w := w) (h := h) (by omega)
  have hin : ∀ c ∈ allC w h, InC c := fun c hc => by
    have := allC_mem hc
    unfold InC; omega
  generalize allC w h = A at hall hal h9 hin ⊢
  refine Gives.by rfl rfl (W.seq ?_)
  repeat' first | ((with_reducible apply WR.c_o (f := 33) (fn := Code.f33)); exact rfl; exact rfl; exact rfl; (first | exact rfl); (focus ((repeat' first | exact args_nil | apply args_d | exact toD_d rfl | exact rfl); done)); exact hall; (first | exact rfl)) | ((with_reducible apply WR.mv); exact rfl; exact rfl) | ((with_reducible apply WR.ld); exact rfl; exact rfl; exact rfl; (first | exact loadC_all (IsLawn.len (by assumption)))) | ((with_reducible apply WR.nil)) | (with_reducible refine andThen_n ?_) | (with_reducible refine W.seq ?_) | (with_reducible refine W.region ?_) | (with_reducible refine W.block ?_) | ((with_reducible apply WR.bx); exact rfl; exact rfl; exact (by first | exact IsLev.len (by assumption) | exact IsLawn.len (by assumption) | exact rfl); (first | exact rfl)) | ((with_reducible apply WR.le); exact rfl; exact rfl)
  (refine (?_ : W _ (Code.loop _) _ _))
  (refine W.loopM [3, 9, 10] [3, 9] [7] (fun zz : (Nat) × (Int) => match zz with | (i, n) => (A.length - i : Nat)) (fun zz : (Nat) × (Int) => match zz with | (i, n) => ((i ≤ A.length ∧ n = sumL (lv q) (A.take i)) ∧ -9 * (i : Int) ≤ n ∧ n ≤ 9 * (i : Int) : Prop)) (fun zz : (Nat) × (Int) => match zz with | (i, n) => [(11, .a (.d (.s (.int .i64 (i : Nat))))), (5, .a (.d (.s (.int .i64 n))))]) (fun zz : (Nat) × (Int) => match zz with | (i, n) => []) (0, 0) (⟨⟨by omega, rfl⟩, by omega, by omega⟩) ⟨rfl, rfl, trivial⟩ trivial ⟨(by (repeat' first | exact rfl | assumption | (with_reducible apply noPar_set) | ((with_reducible apply noPar_puto); exact rfl) | (with_reducible apply noPar_put) | (with_reducible apply noPar_putv) | (with_reducible apply noPar_putm) | (with_reducible apply noPar_kill) | ((with_reducible apply noPar_mix); exact rfl) | ((with_reducible apply noPar_mixT); exact rfl)); done), trivial⟩ ?_)
  rintro ⟨i, n⟩ σ hP hN; dsimp only [setL, putL] at hP ⊢; obtain ⟨n7, hN⟩ := hN
  obtain ⟨⟨hi, hn⟩, hb1, hb2⟩ := hP
  by_cases hil : i < A.length
  · have hst : A.take (i + 1) = A.take i ++ [gC A i] := by rw [List.take_add_one, gC_get hil]; rfl
    have h1 := h9 _ (gC_mem hil)
    have h2 := hin _ (gC_mem hil)
    have h3 : -9 ≤ q (10 * (gC A i).2.toNat + (gC A i).1.toNat) ∧ q (10 * (gC A i).2.toNat + (gC A i).1.toNat) ≤ 9 := h1
    repeat' first | ((with_reducible apply WR.c_s (f := 97) (fn := Code.f97)); exact rfl; exact rfl; exact rfl; (first | exact rfl); (focus ((repeat' first | exact args_nil | apply args_d | exact toD_d rfl | exact rfl); done)); exact of_gives (by assumption) _ _ (by omega)) | ((with_reducible apply WR.mv); exact rfl; exact rfl) | ((with_reducible apply WR.ld); exact rfl; exact rfl; exact rfl; (first | exact ld2 | exact loadC_all (IsLev.len (by assumption)) | exact ldC (by first | omega))) | ((with_reducible apply WR.nil)) | (with_reducible refine andThen_n ?_) | (with_reducible refine inB_n ?_) | (with_reducible refine W.seq ?_) | (with_reducible refine W.region ?_) | (with_reducible refine W.skip ?_) | (with_reducible refine W.block ?_) | ((with_reducible apply W.condT); exact rfl) | (intro hb; try (exfalso; omega)) | ((with_reducible apply WR.ad); exact rfl; exact rfl; exact rfl; (first | exact i64_in _ (by omega) | assumption)) | ((with_reducible apply WR.lss); exact rfl; exact rfl; exact rfl) | ((with_reducible apply WR.isn); exact rfl; exact rfl; exact rfl; omega) | ((with_reducible apply WR.al); exact rfl; (first | exact rfl | assumption)) | ((with_reducible apply WR.st); exact rfl; exact rfl; exact rfl; exact st2)
    (refine W.nxt ((i + 1, n + q (10 * (gC A i).2.toNat + (gC A i).1.toNat))) (by first | omega | (dsimp only; omega)) ?_ ⟨rfl, rfl, trivial⟩ trivial ⟨rfl, rfl, rfl, trivial⟩ ⟨rfl, rfl, trivial⟩ ⟨(by (repeat' first | exact rfl | assumption | (with_reducible apply noPar_set) | ((with_reducible apply noPar_puto); exact rfl) | (with_reducible apply noPar_put) | (with_reducible apply noPar_putv) | (with_reducible apply noPar_putm) | (with_reducible apply noPar_kill) | ((with_reducible apply noPar_mix); exact rfl) | ((with_reducible apply noPar_mixT); exact rfl)); done), trivial⟩); (try dsimp only)
    refine ⟨⟨by omega, ?_⟩, by omega, by omega⟩
    rw [hst, sumL_snoc, ← hn]; rfl
  · obtain rfl : i = A.length := by omega
    rw [List.take_of_length_le (by omega)] at hn
    rw [← hn]
    repeat' first | ((with_reducible apply WR.mv); exact rfl; exact rfl) | ((with_reducible apply WR.nil)) | (with_reducible refine andThen_n ?_) | (with_reducible refine andThen_x ?_) | (with_reducible refine inB_x ?_) | (with_reducible refine W.seq ?_) | (with_reducible refine W.region ?_) | (with_reducible refine W.ret ?_) | (with_reducible refine W.exit ?_) | ((with_reducible apply W.condF); exact rfl) | ((with_reducible apply Done.f); (intro hh hh2; exact (nomatch hh2)); (focus ((repeat' first | exact all_nil | apply all_cons | exact res_tmp rfl); done)); (focus ((repeat' first | exact all_nil | apply all_cons | exact retOf_s rfl); done)); exact rfl; (focus ((repeat' first | exact outs_nil | apply outs_d); done))) | (intro hb; try (exfalso; omega)) | ((with_reducible apply WR.lss); exact rfl; exact rfl; exact rfl)
    rfl
theorem sumS_gives (v : IsLev q qs) (h9 : ∀ k, k < 100 → -9 ≤ q k ∧ q k ≤ 9) : Gives G 207 [ar qs] (ri .i64 (sumL (lv q) (allC 10 10))) := by
  have hA : allC 10 10 = cellsTo 10 (10 * 10 + 0) := rfl
  rw [hA]
  refine Gives.by rfl rfl (W.seq ?_)
  repeat' first | ((with_reducible apply WR.mv); exact rfl; exact rfl) | ((with_reducible apply WR.nil)) | (with_reducible refine andThen_n ?_) | (with_reducible refine W.seq ?_) | (with_reducible refine W.region ?_) | (with_reducible refine W.block ?_)
  (refine (?_ : W _ (Code.loop _) _ _))
  (refine W.loopM [0] [] [] (fun zz : (Nat) × (Int) => match zz with | (y, n) => (10 - y : Nat)) (fun zz : (Nat) × (Int) => match zz with | (y, n) => ((y ≤ 10 ∧ n = sumL (lv q) (cellsTo 10 (y * 10 + 0))) ∧ -90 * (y : Int) ≤ n ∧ n ≤ 90 * (y : Int) : Prop)) (fun zz : (Nat) × (Int) => match zz with | (y, n) => [(4, .a (.d (.s (.int .i64 (y : Nat))))), (3, .a (.d (.s (.int .i64 n))))]) (fun zz : (Nat) × (Int) => match zz with | (y, n) => []) (0, 0) (⟨⟨by omega, rfl⟩, by omega, by omega⟩) ⟨rfl, rfl, trivial⟩ trivial trivial ?_)
  rintro ⟨y, n⟩ σ hP hN; dsimp only [setL, putL] at hP ⊢
  obtain ⟨⟨hy, hn⟩, hb1, hb2⟩ := hP
  by_cases hyl : y < 10
  · repeat' first | ((with_reducible apply WR.mv); exact rfl; exact rfl) | ((with_reducible apply WR.nil)) | (with_reducible refine andThen_n ?_) | (with_reducible refine W.seq ?_) | (with_reducible refine W.region ?_) | (with_reducible refine W.skip ?_) | (with_reducible refine W.block ?_) | ((with_reducible apply W.condT); exact rfl) | (intro hb; try (exfalso; omega)) | ((with_reducible apply WR.lss); exact rfl; exact rfl; exact rfl)
    (refine (?_ : W _ (Code.loop _) _ _))
    (refine W.loopM [0, 4] [] [] (fun zz : (Nat) × (Int) => match zz with | (x, m) => (10 - x : Nat)) (fun zz : (Nat) × (Int) => match zz with | (x, m) => ((x ≤ 10 ∧ m = sumL (lv q) (cellsTo 10 (y * 10 + x))) ∧ -90 * (y : Int) - 9 * (x : Int) ≤ m ∧ m ≤ 90 * (y : Int) + 9 * (x : Int) : Prop)) (fun zz : (Nat) × (Int) => match zz with | (x, m) => [(5, .a (.d (.s (.int .i64 (x : Nat))))), (3, .a (.d (.s (.int .i64 m))))]) (fun zz : (Nat) × (Int) => match zz with | (x, m) => []) (0, n) (⟨⟨by omega, hn⟩, by omega, by omega⟩) ⟨rfl, rfl, trivial⟩ trivial trivial ?_)
    rintro ⟨x, m⟩ σ hP hN; dsimp only [setL, putL] at hP ⊢
    clear hn hb1 hb2
    obtain ⟨⟨hx, hn⟩, hb1, hb2⟩ := hP
    by_cases hxl : x < 10
    · have hs := cellsTo_succ (W := 10) (y := y) (x := x) hxl
      have h3 := h9 (10 * y + x) (by omega)
      have h3' : -9 ≤ q (10 * ((y : Nat) : Int).toNat + ((x : Nat) : Int).toNat) ∧ q (10 * ((y : Nat) : Int).toNat + ((x : Nat) : Int).toNat) ≤ 9 := h3
      repeat' first | ((with_reducible apply WR.mv); exact rfl; exact rfl) | ((with_reducible apply WR.ad); exact rfl; exact rfl; exact rfl; (first | exact i64_in _ (by omega))) | ((with_reducible apply WR.nil)) | (with_reducible refine andThen_n ?_) | (with_reducible refine inB_n ?_) | (with_reducible refine W.seq ?_) | (with_reducible refine W.region ?_) | (with_reducible refine W.skip ?_) | (with_reducible refine W.block ?_) | ((with_reducible apply W.condT); exact rfl) | (intro hb; try (exfalso; omega)) | ((with_reducible apply WR.lss); exact rfl; exact rfl; exact rfl) | ((with_reducible apply WR.iad); exact rfl; exact rfl; exact rfl; omega) | ((with_reducible apply WR.iar); exact rfl; exact rfl; exact rfl; omega) | ((with_reducible apply WR.cv); exact rfl; exact rfl; (first | exact i64_in _ (by omega))) | ((with_reducible apply WR.ldd); exact rfl; exact rfl; (first | exact lev_c (by assumption) (by omega))) | ((with_reducible apply WR.nc); exact rfl; exact rfl)
      (refine W.nxt ((x + 1, m + q (10 * ((y : Nat) : Int).toNat + ((x : Nat) : Int).toNat))) (by first | omega | (dsimp only; omega)) ?_ ⟨rfl, rfl, trivial⟩ trivial ⟨rfl, rfl, trivial⟩ trivial trivial); (try dsimp only)
      refine ⟨⟨by omega, ?_⟩, by omega, by omega⟩
      rw [hs, sumL_snoc, ← hn]; rfl
    · obtain rfl : x = 10 := by omega
      repeat' first | ((with_reducible apply WR.mv); exact rfl; exact rfl) | ((with_reducible apply WR.ad); exact rfl; exact rfl; exact rfl; (first | exact i64_in _ (by omega))) | ((with_reducible apply WR.nil)) | (with_reducible refine andThen_n ?_) | (with_reducible refine andThen_x ?_) | (with_reducible refine inB_n ?_) | (with_reducible refine inB_x ?_) | (with_reducible refine W.seq ?_) | (with_reducible refine W.region ?_) | (with_reducible refine W.exit ?_) | ((with_reducible apply W.condF); exact rfl) | (intro hb; try (exfalso; omega)) | ((with_reducible apply WR.lss); exact rfl; exact rfl; exact rfl)
      (refine W.nxt ((y + 1, m)) (by first | omega | (dsimp only; omega)) ?_ ⟨rfl, rfl, trivial⟩ trivial ⟨rfl, trivial⟩ trivial trivial); (try dsimp only)
      exact ⟨⟨by omega, by rw [hn]; congr 2; omega⟩, by omega, by omega⟩
  · obtain rfl : y = 10 := by omega
    rw [← hn]
    repeat' first | ((with_reducible apply WR.mv); exact rfl; exact rfl) | ((with_reducible apply WR.nil)) | (with_reducible refine andThen_n ?_) | (with_reducible refine andThen_x ?_) | (with_reducible refine inB_x ?_) | (with_reducible refine W.seq ?_) | (with_reducible refine W.region ?_) | (with_reducible refine W.ret ?_) | (with_reducible refine W.exit ?_) | ((with_reducible apply W.condF); exact rfl) | ((with_reducible apply Done.f); (intro hh hh2; exact (nomatch hh2)); (focus ((repeat' first | exact all_nil | apply all_cons | exact res_tmp rfl); done)); (focus ((repeat' first | exact all_nil | apply all_cons | exact retOf_s rfl); done)); exact rfl; (focus ((repeat' first | exact outs_nil | apply outs_d); done))) | (intro hb; try (exfalso; omega)) | ((with_reducible apply WR.lss); exact rfl; exact rfl; exact rfl)
    rfl
/-- The level of all, or one less than a greater part. -/
def lowE (S n : Int) : Int := if S.tmod n < 0 then S.tdiv n - 1 else S.tdiv n
theorem lowE_spec {S n : Int} (hn : 0 < n) (h1 : -(9 * n) ≤ S) (h2 : S ≤ 9 * n) : (0 ≤ S - lowE S n * n ∧ S - lowE S n * n < n) ∧ -9 ≤ lowE S n ∧ lowE S n ≤ 9 := by
  have a1 := Int.mul_tdiv_add_tmod S n
  have a2 := Int.tmod_lt_of_pos S hn
  have a3 := Int.lt_tmod_of_pos S hn
  have e : ∃ r, S = lowE S n * n + r ∧ 0 ≤ r ∧ r < n := by
    unfold lowE
    split
    · exact ⟨S.tmod n + n, by rw [Int.sub_mul, Int.mul_comm (S.tdiv n)]; omega, by omega, by omega⟩
    · exact ⟨S.tmod n, by rw [Int.mul_comm (S.tdiv n)]; omega, by omega, by omega⟩
  obtain ⟨r, e1, e2, e3⟩ := e
  generalize lowE S n = L at e1 ⊢
  refine ⟨by omega, ?_, ?_⟩
  · apply Int.not_lt.1
    intro hlt
    have : (L + 1) * n ≤ (-9) * n := Int.mul_le_mul_of_nonneg_right (by omega) (by omega)
    rw [Int.add_mul] at this; omega
  · apply Int.not_lt.1
    intro hlt
    have : 10 * n ≤ L * n := Int.mul_le_mul_of_nonneg_right (by omega) (by omega)
    omega
end Go.DM

/- Levels made even: the program's side. -/
set_option linter.unusedSimpArgs false
set_option linter.unusedVariables false
set_option maxHeartbeats 4000000
namespace Go.DM
open Go.IntWalk
section
variable {Γ : Nat → Option Fn} {dsts : Nat → Option Nat} {ops : List Oper} {Q : St → Prop} {σ : St} {d : Option Nat} {gd : Option (Nat × Bool)} {l1 l2 l3 l4 : List Nat}
theorem tdiv_in {x y : Int} (hx : -100000 ≤ x ∧ x ≤ 100000) (hy : 0 < y) : -100000 ≤ x.tdiv y ∧ x.tdiv y ≤ 100000 := by
  have a1 := Int.mul_tdiv_add_tmod x y
  have a2 := Int.tmod_lt_of_pos x hy
  have a3 := Int.lt_tmod_of_pos x hy
  constructor
  · apply Int.not_lt.1
    intro hlt
    have : y * (x.tdiv y + 1) ≤ y * (-100000) := Int.mul_le_mul_of_nonneg_left (by omega) (by omega)
    rw [Int.mul_add] at this
    have h3 : y * (-100000) ≤ 1 * (-100000) := by omega
    omega
  · apply Int.not_lt.1
    intro hlt
    have : y * 100001 ≤ y * x.tdiv y := Int.mul_le_mul_of_nonneg_left (by omega) (by omega)
    omega
theorem WR.tq {a b : Opd} {x y : Int} (hw : wanted dsts σ.env gd = some true) (ha : ev σ.env a = .a (.d (.s (.int .i64 x)))) (hb : ev σ.env b = .a (.d (.s (.int .i64 y)))) (hx : -100000 ≤ x ∧ x ≤ 100000) (hy : 0 < y)
    (K : WR Γ dsts ops Q (set d (.a (.d (.s (.int .i64 (x.tdiv y))))) σ)) : WR Γ dsts (⟨d, .bin .quo a b, gd, l1, l2, l3, l4⟩ :: ops) Q σ :=
  WR.q hw (by
    have h1 := tdiv_in hx hy
    have h2 : IntKind.i64.wrap (x.tdiv y) = x.tdiv y := i64_in _ (by omega)
    simp [quiet, ha, hb, bin, isShift, intBin, show ¬ y = 0 by omega, h2, sv]) K
theorem WR.tr {a b : Opd} {x y : Int} (hw : wanted dsts σ.env gd = some true) (ha : ev σ.env a = .a (.d (.s (.int .i64 x)))) (hb : ev σ.env b = .a (.d (.s (.int .i64 y)))) (hy : 0 < y)
    (K : WR Γ dsts ops Q (set d (.a (.d (.s (.int .i64 (x.tmod y))))) σ)) : WR Γ dsts (⟨d, .bin .rem a b, gd, l1, l2, l3, l4⟩ :: ops) Q σ :=
  WR.q hw (by simp [quiet, ha, hb, bin, isShift, intBin, show ¬ y = 0 by omega, sv]) K
end
variable {w h : Int} {g : Nat → Int} {cs : List S} {q : Nat → Int} {qs : List S}
/-- What a cell has behind it: the first `over` of the sorted row have one more. -/
def ownE (T : List Cel) (low : Int) (over : Nat) (c : Cel) : Int := if c ∈ T.take over then low + 1 else low
def fmE (q : Nat → Int) (T : List Cel) (low : Int) (over : Nat) (c : Cel) : Int := max (lv q c - ownE T low over c) 0
/-- The levels. -/
def gridE (F T : List Cel) (low : Int) (over : Nat) (k : Nat) : Int := match F.find? (fun c => kC c == k) with | some c => ownE T low over c | none => 0
theorem gridE_at {F T : List Cel} {low : Int} {over : Nat} (h9 : ∀ c ∈ F, InC c) {c : Cel} (hc : c ∈ F) : gridE F T low over (kC c) = ownE T low over c := by
  unfold gridE
  cases hf : F.find? (fun d => kC d == kC c) with
  | none =>
    have := List.find?_eq_none.1 hf c hc
    simp at this
  | some d =>
    have h1 := List.find?_some hf
    have h2 := List.mem_of_find?_eq_some hf
    have h3 : kC d = kC c := by simpa using h1
    rw [show d = c from kC_inj (h9 d h2) (h9 c hc) h3]
theorem gridE_out {F T : List Cel} {low : Int} {over : Nat} {k : Nat} (h : ∀ c ∈ F, kC c ≠ k) : gridE F T low over k = 0 := by
  unfold gridE
  cases hf : F.find? (fun d => kC d == k) with
  | none => rfl
  | some d =>
    have h1 := List.find?_some hf
    have h2 := List.mem_of_find?_eq_some hf
    exact absurd (by simpa using h1) (h d h2)
theorem gridE_eq {F T : List Cel} {low : Int} {over : Nat} {o : Nat → Int} (h9 : ∀ c ∈ F, InC c) (h1 : ∀ c ∈ F, o (kC c) = ownE T low over c) (h2 : ∀ k, (∀ c ∈ F, kC c ≠ k) → o k = 0) : grid .i8 o = grid .i8 (gridE F T low over) := by
  refine List.map_congr_left fun k _ => ?_
  congr 1
  by_cases hk : ∃ c ∈ F, kC c = k
  · obtain ⟨c, hc, rfl⟩ := hk
    rw [h1 c hc, gridE_at h9 hc]
  · have : ∀ c ∈ F, kC c ≠ k := fun c hc e => hk ⟨c, hc, e⟩
    rw [h2 k this, gridE_out this]
/-- Sorted rows have each cell once. -/
theorem dis_ne {key : Cel → Int} {T : List Cel} (hD : Dis key T) {i j : Nat} (hi : i < T.length) (hj : j < T.length) (hij : i ≠ j) : gC T i ≠ gC T j := fun e => by
  have h := List.pairwise_iff_getElem.1 hD
  have e1 := gC_get hi
  have e2 := gC_get hj
  rw [List.getElem?_eq_getElem hi] at e1
  rw [List.getElem?_eq_getElem hj] at e2
  simp only [Option.some.injEq] at e1 e2
  rcases Nat.lt_or_gt_of_ne hij with hlt | hlt
  · exact h i j hi hj hlt (by rw [e1, e2, e])
  · exact h j i hj hi hlt (by rw [e1, e2, e])
theorem own_at {key : Cel → Int} {T : List Cel} {low : Int} {over i : Nat} (hD : Dis key T) (hi : i < T.length) : ownE T low over (gC T i) = if i < over then low + 1 else low := by
  unfold ownE
  by_cases hio : i < over
  · rw [if_pos hio, if_pos]
    have : (T.take over)[i]? = some (gC T i) := by rw [List.getElem?_take_of_lt hio]; exact gC_get hi
    exact List.mem_of_getElem? this
  · rw [if_neg hio, if_neg]
    intro hm
    obtain ⟨j, hj, e⟩ := List.getElem_of_mem hm
    rw [List.length_take] at hj
    rw [List.getElem_take] at e
    have e2 := gC_get (show j < T.length by omega)
    rw [List.getElem?_eq_getElem (by omega)] at e2
    simp only [Option.some.injEq] at e2
    exact dis_ne hD (show j < T.length by omega) hi (by omega) (by rw [← e2, e])
end Go.DM
