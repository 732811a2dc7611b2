/- Ways: their cells: both sides. -/
import Derived.Test.YtgbifpijjfolbaaGreatK441Way
import Derived.Test.YtgbifpijjfolbaaGreatK441SidesP
import Derived.Test.YtgbifpijjfolbaaGreatK441RunsP
set_option linter.all false
set_option maxHeartbeats 4000000
namespace Go.DM
variable [Tok]
open Go.IntWalk
variable {w h : Int} {g : Nat → Int} {cs : List S}
def trk (s : List UInt8) (c : Cel) : Nat → List Cel
  | 0 => [c]
  | i + 1 => trk s c i ++ [nx (gC (trk s c i) i) (lt (gB s i))]
theorem trk_len (s : List UInt8) (c : Cel) : ∀ i, (trk s c i).length = i + 1
  | 0 => rfl
  | i + 1 => by rw [trk, List.length_append, trk_len s c i]; rfl
def at_ (s : List UInt8) (c : Cel) (i : Nat) : Cel := gC (trk s c i) i
theorem at_succ (s : List UInt8) (c : Cel) (i : Nat) : at_ s c (i + 1) = nx (at_ s c i) (lt (gB s i)) := by
  have := trk_len s c i
  simp only [at_, trk, gC, List.getD_eq_getElem?_getD]
  rw [List.getElem?_append_right (by omega), this]
  simp
theorem trk_succ (s : List UInt8) (c : Cel) (i : Nat) : trk s c (i + 1) = trk s c i ++ [at_ s c (i + 1)] := by rw [at_succ]; rfl
theorem trk_mem {s : List UInt8} {c e : Cel} : ∀ {i : Nat}, e ∈ trk s c i → ∃ j, j ≤ i ∧ e = at_ s c j
  | 0, he => ⟨0, Nat.le_refl _, List.mem_singleton.1 he⟩
  | i + 1, he => by
    rw [trk_succ, List.mem_append, List.mem_singleton] at he
    rcases he with he | rfl
    · obtain ⟨j, h1, h2⟩ := trk_mem he
      exact ⟨j, by omega, h2⟩
    · exact ⟨i + 1, Nat.le_refl _, rfl⟩
theorem nx_near (c : Cel) {k : Int} (hk : 0 ≤ k ∧ k ≤ 3) : c.1 - 1 ≤ (nx c k).1 ∧ (nx c k).1 ≤ c.1 + 1 ∧ c.2 - 1 ≤ (nx c k).2 ∧ (nx c k).2 ≤ c.2 + 1 := by
  obtain rfl | rfl | rfl | rfl : k = 0 ∨ k = 1 ∨ k = 2 ∨ k = 3 := by omega
  all_goals simp [nx, Near, gC]
  all_goals omega
theorem first_bad {p : Nat → Prop} : ∀ (n : Nat), ¬ (∀ i, i ≤ n → p i) → ∃ k, k ≤ n ∧ ¬ p k ∧ ∀ j, j < k → p j
  | 0, hh => ⟨0, Nat.le_refl _, fun h0 => hh (fun i hi => by obtain rfl : i = 0 := by omega
                                                             exact h0), fun j hj => by omega⟩
  | n + 1, hh => by
    by_cases hn : ∀ i, i ≤ n → p i
    · exact ⟨n + 1, Nat.le_refl _, fun h0 => hh (fun i hi => by
        by_cases hi2 : i ≤ n
        · exact hn i hi2
        · obtain rfl : i = n + 1 := by omega
          exact h0), fun j hj => hn j (by omega)⟩
    · obtain ⟨k, h1, h2, h3⟩ := first_bad n hn
      exact ⟨k, by omega, h2, h3⟩
theorem l02Come_gives (l : IsLawn w h g cs) (hs : w ≤ 10 ∧ h ≤ 10) (s : List UInt8) (hn : s.length ≤ 200) (hlt : ∀ j, j < s.length → 0 ≤ lt (gB s j)) (c : Cel) (hx : -128 ≤ c.1 ∧ c.1 ≤ 127 ∧ -128 ≤ c.2 ∧ c.2 ≤ 127)
    (k : Nat) (hk : k ≤ s.length + 1) (hP0 : ∀ j, j < k → Opn w h g (at_ s c j).1 (at_ s c j).2) (hN0 : k ≤ s.length → ¬ Opn w h g (at_ s c k).1 (at_ s c k).2) :
    Gives G 79 [ar cs, ac c.1 c.2, .d (.s (.str s))] ⟨[.own (trk s c (k - 1)).length 2 (encC (trk s c (k - 1))), .s (.bool (decide (k = s.length + 1)))], []⟩ := by
  have hfree := fun (e : Cel) (he : -128 ≤ e.1 ∧ e.1 ≤ 127 ∧ -128 ≤ e.2 ∧ e.2 ≤ 127) => l02Free_gives l hs e.1 e.2 he
  have h0 : at_ s c 0 = c := rfl
  refine Gives.by rfl rfl (W.seq ?_)
  by_cases hk0 : k = 0
  · subst hk0
    have hN1 := hN0 (by omega)
    rw [h0] at hN1
    repeat' first | ((with_reducible apply WR.c_p (f := 108) (fn := Code.f108)); (iterate 3 exact rfl); exact rfl; (focus ((repeat' first | exact args_nil | apply args_d | exact toD_d rfl | exact all_nil | apply all_cons | exact rfl); done)); exact hfree c hx) | ((with_reducible first | apply WR.mv | apply WR.un); exact rfl; exact rfl) | ((with_reducible apply WR.ld); (iterate 3 exact rfl); (exact ld2)) | (with_reducible first | apply WR.nil | refine andThen_n ?_ | refine andThen_r ?_ | refine W.seq ?_ | refine W.region ?_ | refine W.skip ?_ | refine W.ret ?_ | refine W.block ?_) | ((with_reducible apply W.condT); exact rfl) | ((with_reducible apply W.condF); exact rfl) | ((with_reducible apply Done.f); (intro hh hh2; exact (nomatch hh2)); (focus ((repeat' first | exact all_nil | apply all_cons | exact res_tmp rfl | exact rfl); done)); (focus ((repeat' first | exact all_nil | apply all_cons | exact retOf_s rfl | exact retOf_o rfl rfl (by first | exact encC_length _ | exact rfl) | exact rfl); done)); exact rfl; (focus ((repeat' first | exact outs_nil | apply outs_d | exact rfl); done))) | (intro hb; try (exfalso; omega)) | ((with_reducible apply WR.bs1); exact rfl; exact rfl; exact rfl) | ((with_reducible apply WR.bx); exact rfl; exact rfl; exact (by first | exact encC_length _ | exact rfl); exact rfl)
    all_goals first
      | exact absurd (by assumption) hN1
      | (rw [decide_eq_false (by omega : ¬ 0 = s.length + 1)]; rfl)
  · have hP1 := hP0 0 (by omega)
    rw [h0] at hP1
    repeat' first | ((with_reducible apply WR.c_p (f := 108) (fn := Code.f108)); (iterate 3 exact rfl); exact rfl; (focus ((repeat' first | exact args_nil | apply args_d | exact toD_d rfl | exact all_nil | apply all_cons | exact rfl); done)); exact hfree c hx) | ((with_reducible first | apply WR.mv | apply WR.un); exact rfl; exact rfl) | ((with_reducible apply WR.ld); (iterate 3 exact rfl); (exact ld2)) | (with_reducible first | apply WR.nil | refine andThen_n ?_ | refine andThen_r ?_ | refine W.seq ?_ | refine W.region ?_ | refine W.skip ?_ | refine W.ret ?_ | refine W.block ?_) | ((with_reducible apply W.condT); exact rfl) | ((with_reducible apply W.condF); exact rfl) | ((with_reducible apply Done.f); (intro hh hh2; exact (nomatch hh2)); (focus ((repeat' first | exact all_nil | apply all_cons | exact res_tmp rfl | exact rfl); done)); (focus ((repeat' first | exact all_nil | apply all_cons | exact retOf_s rfl | exact retOf_o rfl rfl (by first | exact encC_length _ | exact rfl) | exact rfl); done)); exact rfl; (focus ((repeat' first | exact outs_nil | apply outs_d | exact rfl); done))) | (intro hb; try (exfalso; omega)) | ((with_reducible apply WR.bs1); exact rfl; exact rfl; exact rfl) | ((with_reducible apply WR.bx); exact rfl; exact rfl; exact (by first | exact encC_length _ | exact rfl); exact rfl)
    all_goals first
      | exact absurd hP1 (by assumption)
      | skip
    (refine (?_ : W _ (Code.loop _) _ _))
    (refine W.loopM [0, 2, 4] [] [36, 37] (fun ((i, e, out) : (Nat) × (Cel) × (List Cel)) => (s.length - i : Nat)) (fun ((i, e, out) : (Nat) × (Cel) × (List Cel)) => (i ≤ s.length ∧ i < k ∧ e = at_ s c i ∧ out = trk s c i ∧ out.length = i + 1 : Prop)) (fun z : (Nat) × (Cel) × (List Cel) => match z with | (i, e, out) => [(8, .a (.sl 11 0 out.length 2)), (9, .a (.d (.s (.int .i64 (i : Nat)))))]) (fun z : (Nat) × (Cel) × (List Cel) => match z with | (i, e, out) => [(4, .flat false ([.int .i8 e.1, .int .i8 e.2])), (11, .flat false (encC out))]) (0, c, [c]) (⟨by omega, by omega, rfl, rfl, rfl⟩) ⟨rfl, rfl, trivial⟩ ⟨rfl, rfl, trivial⟩ ⟨np, np, trivial⟩ ?_)
    rintro ⟨i, e, out⟩ σ hP hN; dsimp only [setL, putL] at hP ⊢; obtain ⟨n36, hN⟩ := hN; obtain ⟨n37, hN⟩ := hN
    obtain ⟨hi, hik, he, ho, hol⟩ := hP
    by_cases hil : i < s.length
    · have hl := lt_b (gB s i)
      have hl0 := hlt i hil
      have hO := hP0 i hik
      rw [← he] at hO
      have hH := hO.1
      have hnr := nx_near e (k := lt (gB s i)) (by omega)
      have hat : at_ s c (i + 1) = nx e (lt (gB s i)) := by rw [at_succ, ← he]
      have htr : trk s c (i + 1) = out ++ [nx e (lt (gB s i))] := by rw [trk_succ, hat, ← ho]
      repeat' first | ((with_reducible apply WH.ist); (iterate 3 exact rfl); exact (by omega)) | ((with_reducible apply WH.c_a (f := 109) (fn := Code.f109)); (iterate 3 exact rfl); exact rfl; (focus ((repeat' first | exact args_nil | apply args_d | exact toD_d rfl | exact all_nil | apply all_cons | exact rfl); done)); exact l02Next_gives e (lt (gB s i)) (by omega) (by omega); exact rfl) | ((with_reducible apply WR.c_p (f := 108) (fn := Code.f108)); (iterate 3 exact rfl); exact rfl; (focus ((repeat' first | exact args_nil | apply args_d | exact toD_d rfl | exact all_nil | apply all_cons | exact rfl); done)); exact hfree (nx e (lt (gB s i))) (by omega)) | ((with_reducible apply WH.c_s (f := 110) (fn := Code.f110)); (iterate 3 exact rfl); exact rfl; (focus ((repeat' first | exact args_nil | apply args_d | exact toD_d rfl | exact all_nil | apply all_cons | exact rfl); done)); exact l02Letter_gives _; exact rfl) | ((with_reducible first | apply WR.mv | apply WR.un | apply WR.le); exact rfl; exact rfl) | ((with_reducible apply WR.ld); (iterate 3 exact rfl); (exact ld2)) | (with_reducible first | apply WR.nil | refine andThen_n ?_ | refine andThen_r ?_ | refine inB_n ?_ | refine inB_r ?_ | refine W.seq ?_ | refine W.region ?_ | refine W.skip ?_ | refine W.ret ?_ | refine W.block ?_ | apply WH.nil | refine W.draw ?_) | ((with_reducible apply W.condT); exact rfl) | ((with_reducible apply W.condF); exact rfl) | ((with_reducible apply Done.f); (intro hh hh2; exact (nomatch hh2)); (focus ((repeat' first | exact all_nil | apply all_cons | exact res_tmp rfl | exact rfl); done)); (focus ((repeat' first | exact all_nil | apply all_cons | exact retOf_s rfl | exact retOf_o rfl rfl (by first | exact encC_length _ | assumption | exact rfl) | exact rfl); done)); exact rfl; (focus ((repeat' first | exact outs_nil | apply outs_d | exact rfl); done))) | (intro hb; try (exfalso; omega)) | ((with_reducible apply WR.bs1); exact rfl; exact rfl; (first | exact rfl | assumption)) | ((with_reducible first | apply WH.mv | apply WR.lss); iterate 3 exact rfl) | ((with_reducible apply WR.ad); (iterate 3 exact rfl); (first | exact i64_in _ (by omega) | assumption)) | ((with_reducible apply WR.apC); (iterate 4 exact rfl); omega) | ((with_reducible apply WH.ld); (iterate 3 exact rfl); (exact ld2); exact rfl) | ((with_reducible apply WH.st); (iterate 3 exact rfl); exact st2; exact rfl; exact rfl)
      · have hik2 : i + 1 < k := by
          by_cases hh : i + 1 = k
          · have h2 := hN0 (by omega)
            rw [← hh, hat] at h2
            exact absurd (by assumption) h2
          · omega
        (refine W.nxt (i + 1, nx e (lt (gB s i)), out ++ [nx e (lt (gB s i))]) (by first | omega | (dsimp only; omega)) ?_ ⟨rfl, rfl, trivial⟩ ⟨rfl, rfl, trivial⟩ ⟨rfl, rfl, rfl, trivial⟩ trivial ⟨np, np, trivial⟩); (try dsimp only)
        exact ⟨by omega, hik2, hat.symm, htr.symm, by rw [List.length_append, hol]; rfl⟩
      · have hik2 : k = i + 1 := by
          by_cases hh : i + 1 < k
          · have h2 := hP0 (i + 1) hh
            rw [hat] at h2
            exact absurd h2 (by assumption)
          · omega
        subst hik2
        rw [decide_eq_false (by omega : ¬ i + 1 = s.length + 1), Nat.add_sub_cancel, ← ho]
        rfl
    · have hik2 : k = i + 1 := by omega
      subst hik2
      repeat' first | ((with_reducible first | apply WR.mv | apply WR.le); exact rfl; exact rfl) | (with_reducible first | apply WR.nil | refine andThen_n ?_ | refine andThen_x ?_ | refine inB_x ?_ | refine W.seq ?_ | refine W.region ?_ | refine W.ret ?_ | refine W.exit ?_) | ((with_reducible apply W.condF); exact rfl) | ((with_reducible apply Done.f); (intro hh hh2; exact (nomatch hh2)); (focus ((repeat' first | exact all_nil | apply all_cons | exact res_tmp rfl); done)); (focus ((repeat' first | exact all_nil | apply all_cons | exact retOf_s rfl | exact retOf_o rfl rfl (by first | exact encC_length _)); done)); exact rfl; (focus ((repeat' first | exact outs_nil | apply outs_d); done))) | (intro hb; try (exfalso; omega)) | ((with_reducible apply WR.lss); iterate 3 exact rfl)
      rw [decide_eq_true (by omega : i + 1 = s.length + 1), Nat.add_sub_cancel, ← ho]
      rfl
theorem cellsBy_gives (l : IsLawn w h g cs) (hs : w ≤ 10 ∧ h ≤ 10) (s : List UInt8) (hn : s.length ≤ 200) (hlt : ∀ j, j < s.length → 0 ≤ lt (gB s j)) (c : Cel) (hx : Has w h c.1 c.2)
    (k : Nat) (hk : 1 ≤ k ∧ k ≤ s.length + 1) (hP0 : ∀ j, 1 ≤ j → j < k → Opn w h g (at_ s c j).1 (at_ s c j).2) (hN0 : k ≤ s.length → ¬ Opn w h g (at_ s c k).1 (at_ s c k).2) :
    ∃ m b, Gives G 112 [aa cs, ac c.1 c.2, .d (.s (.str s))] ⟨[.own (trk s c m).length 2 (encC (trk s c m)), .s (.bool b)], []⟩ ∧ (b = true ↔ k = s.length + 1 ∧ Opn w h g c.1 c.2) ∧ (b = true → m = s.length) := by
  have hop := fun (e : Cel) => open_gives l e.1 e.2 (.inl hs)
  have hlt' : ∀ i, i < s.length → ∀ e : Cel, (-127 ≤ e.1 ∧ e.1 ≤ 126 ∧ -127 ≤ e.2 ∧ e.2 ≤ 126) → Gives G 117 [ac e.1 e.2, ai .u8 (gB s i)] ⟨[.agg [.int .i8 (nx e (lt (gB s i))).1, .int .i8 (nx e (lt (gB s i))).2]], []⟩ := fun i hi e he => go1_gives s i e (hlt i hi) he
  refine ⟨if k = s.length + 1 then s.length else k, decide (k = s.length + 1 ∧ Opn w h g c.1 c.2), ?_, by simp, fun hh => if_pos (by simpa using (of_decide_eq_true hh).1)⟩
  refine Gives.by rfl rfl (W.seq ?_)
  repeat' first | ((with_reducible first | apply WR.mv | apply WR.le); exact rfl; exact rfl) | ((with_reducible apply WR.ld); (iterate 3 exact rfl); (exact ld2)) | (with_reducible first | apply WR.nil | refine andThen_n ?_ | refine W.seq ?_ | refine W.region ?_ | refine W.block ?_) | ((with_reducible apply WR.bx); exact rfl; exact rfl; exact (by first | exact IsLawn.len (by assumption) | exact rfl); exact rfl) | ((with_reducible apply WR.bs1); exact rfl; exact rfl; exact rfl)
  (refine (?_ : W _ (Code.loop _) _ _))
  (refine W.loopM [2, 3, 4, 13] [3, 4] [26, 27] (fun ((i, out) : (Nat) × (List Cel)) => (s.length - i : Nat)) (fun ((i, out) : (Nat) × (List Cel)) => (i ≤ s.length ∧ i < k ∧ out = trk s c i ∧ out.length = i + 1 : Prop)) (fun z : (Nat) × (List Cel) => match z with | (i, out) => [(8, .a (.sl 11 0 out.length 2)), (14, .a (.d (.s (.int .i64 (i : Nat)))))]) (fun z : (Nat) × (List Cel) => match z with | (i, out) => [(11, .flat false (encC out))]) (0, [c]) (⟨by omega, by omega, rfl, rfl⟩) ⟨rfl, rfl, trivial⟩ ⟨rfl, trivial⟩ ⟨np, np, trivial⟩ ?_)
  rintro ⟨i, out⟩ σ hP hN; dsimp only [setL, putL] at hP ⊢; obtain ⟨n26, hN⟩ := hN; obtain ⟨n27, hN⟩ := hN
  obtain ⟨hi, hik, ho, hol⟩ := hP
  by_cases hil : i < s.length
  · have hl := lt_b (gB s i)
    have hl0 := hlt i hil
    have hgc : gC out i = at_ s c i := by rw [ho]; rfl
    have hH : Has w h (gC out i).1 (gC out i).2 := by
      rw [hgc]
      by_cases hi0 : i = 0
      · subst hi0; exact hx
      · exact (hP0 i (by omega) hik).1
    have hat : at_ s c (i + 1) = nx (gC out i) (lt (gB s i)) := by rw [at_succ, hgc]
    have htr : trk s c (i + 1) = out ++ [nx (gC out i) (lt (gB s i))] := by rw [trk_succ, hat, ← ho]
    have hlen1 : (out ++ [nx (gC out i) (lt (gB s i))]).length = i + 2 := by rw [List.length_append, hol]; rfl
    have hld : loadC 2 true (encC (out ++ [nx (gC out i) (lt (gB s i))])) (0 + ((i : Int) + 1).toNat * 2) = some (.a (.d (.agg [.int .i8 (nx (gC out i) (lt (gB s i))).1, .int .i8 (nx (gC out i) (lt (gB s i))).2]))) := by
      have e1 : ((i : Int) + 1).toNat = i + 1 := by omega
      have e2 : gC (out ++ [nx (gC out i) (lt (gB s i))]) (i + 1) = nx (gC out i) (lt (gB s i)) := by
        simp only [gC, List.getD_eq_getElem?_getD]
        rw [List.getElem?_append_right (by omega), hol]
        simp
      rw [e1, ldC (by omega), e2]
    repeat' first | ((with_reducible apply WH.ist); (iterate 3 exact rfl); exact (by omega)) | ((with_reducible apply WH.is); (iterate 3 exact rfl); exact (by simp only [List.length_append, List.length_cons, List.length_nil]; omega); exact rfl) | ((with_reducible apply WH.ld); (iterate 3 exact rfl); exact hld; exact rfl) | ((with_reducible apply WH.c_a (f := 117) (fn := Code.f117)); (iterate 3 exact rfl); exact rfl; (focus ((repeat' first | exact args_nil | apply args_d | exact toD_d rfl | exact all_nil | apply all_cons | exact rfl); done)); exact hlt' i hil (gC out i) (by omega); exact rfl) | ((with_reducible apply WH.c_p (f := 77) (fn := Code.f77)); (iterate 3 exact rfl); exact rfl; (focus ((repeat' first | exact args_nil | apply args_d | exact toD_d rfl | exact all_nil | apply all_cons | exact rfl); done)); exact hop (nx (gC out i) (lt (gB s i)))) | ((with_reducible apply WR.mv); exact rfl; exact rfl) | ((with_reducible first | apply WH.mv | apply WR.lss | apply WH.un); iterate 3 exact rfl) | (with_reducible first | apply WR.nil | refine andThen_n ?_ | refine andThen_r ?_ | refine inB_n ?_ | refine inB_r ?_ | refine W.seq ?_ | refine W.region ?_ | refine W.skip ?_ | refine W.ret ?_ | refine W.block ?_ | apply WH.nil | refine W.draw ?_) | ((with_reducible apply W.condT); exact rfl) | ((with_reducible apply W.condF); exact rfl) | ((with_reducible apply Done.f); (intro hh hh2; exact (nomatch hh2)); (focus ((repeat' first | exact all_nil | apply all_cons | exact res_tmp rfl | exact rfl); done)); (focus ((repeat' first | exact all_nil | apply all_cons | exact retOf_s rfl | exact retOf_o rfl rfl (by first | exact encC_length _ | assumption | exact rfl) | exact rfl); done)); exact rfl; (focus ((repeat' first | exact outs_nil | apply outs_d | exact rfl); done))) | ((with_reducible apply WH.ld); (iterate 3 exact rfl); (first | exact loadC_all (IsLawn.len (by assumption)) | exact ldC (by first | omega)); exact rfl) | (intro hb; try (exfalso; omega)) | ((with_reducible apply WH.isn); (iterate 3 exact rfl); omega; exact rfl) | ((with_reducible apply WR.ad); (iterate 3 exact rfl); (first | exact i64_in _ (by omega) | assumption)) | ((with_reducible apply WH.ad); (iterate 3 exact rfl); (first | exact i64_in _ (by omega) | assumption)) | ((with_reducible apply WH.bs1); exact rfl; exact rfl; (first | exact rfl | assumption); exact rfl; exact rfl) | ((with_reducible apply WH.apC); (iterate 4 exact rfl); omega; exact rfl; (first | exact rfl | assumption); exact rfl)
    · have hik2 : i + 1 < k := by
        by_cases hh : i + 1 = k
        · have h2 := hN0 (by omega)
          rw [← hh, hat] at h2
          exact absurd (by assumption) h2
        · omega
      (refine W.nxt (i + 1, out ++ [nx (gC out i) (lt (gB s i))]) (by first | omega | (dsimp only; omega)) ?_ ⟨rfl, rfl, trivial⟩ ⟨rfl, trivial⟩ ⟨rfl, rfl, rfl, rfl, trivial⟩ ⟨rfl, rfl, trivial⟩ ⟨np, np, trivial⟩); (try dsimp only)
      exact ⟨by omega, hik2, htr.symm, by omega⟩
    · have hik2 : k = i + 1 := by
        by_cases hh : i + 1 < k
        · have h2 := hP0 (i + 1) (by omega) hh
          rw [hat] at h2
          exact absurd h2 (by assumption)
        · omega
      subst hik2
      rw [if_neg (by omega : ¬ i + 1 = s.length + 1), decide_eq_false (fun hh => by have := hh.1; omega), htr]
      rfl
  · have hik2 : k = i + 1 := by omega
    subst hik2
    have hse : i = s.length := by omega
    rw [if_pos (by omega : i + 1 = s.length + 1), ← hse, ← ho]
    repeat' first | ((with_reducible apply WR.c_p (f := 77) (fn := Code.f77)); (iterate 3 exact rfl); exact rfl; (focus ((repeat' first | exact args_nil | apply args_d | exact toD_d rfl | exact all_nil | apply all_cons | exact rfl); done)); exact hop c) | ((with_reducible apply WR.mv); exact rfl; exact rfl) | ((with_reducible apply WR.ld); (iterate 3 exact rfl); (first | exact ld2 | exact loadC_all (IsLawn.len (by assumption)))) | (with_reducible first | apply WR.nil | refine andThen_n ?_ | refine andThen_x ?_ | refine inB_x ?_ | refine W.seq ?_ | refine W.region ?_ | refine W.ret ?_ | refine W.exit ?_) | ((with_reducible apply W.condF); exact rfl) | ((with_reducible apply Done.f); (intro hh hh2; exact (nomatch hh2)); (focus ((repeat' first | exact all_nil | apply all_cons | exact res_tmp rfl | exact rfl); done)); (focus ((repeat' first | exact all_nil | apply all_cons | exact retOf_s rfl | exact retOf_o rfl rfl (by first | exact encC_length _ | exact rfl) | exact rfl); done)); exact rfl; (focus ((repeat' first | exact outs_nil | apply outs_d | exact rfl); done))) | (intro hb; try (exfalso; omega)) | ((with_reducible apply WR.lss); iterate 3 exact rfl)
    · rw [decide_eq_true ⟨rfl, by assumption⟩]; rfl
    · rw [decide_eq_false (fun hh => absurd hh.2 (by assumption))]; rfl
end Go.DM

/- The least battery: both sides, the statement. -/
set_option maxHeartbeats 4000000
namespace Go.DM
variable [Tok]
open Go.IntWalk
variable {w h : Int} {g : Nat → Int} {cs : List S}
theorem visit_inv {ok : Cel → Prop} [DecidablePred ok] (hs : w ≤ 10 ∧ h ≤ 10) (hok : ∀ e, ok e → Has w h e.1 e.2) {c e : Cel} {s : (Nat → Int) × List Cel} (b : BInv w h s.1 (c :: s.2)) : BInv w h (visit ok c s e).1 (c :: (visit ok c s e).2) := by
  unfold visit
  split
  · rename_i hh
    have := (b.push hs (List.mem_cons_self ..) (hok e hh.1) hh.2).1
    exact this
  · exact b
theorem fold_inv {ok : Cel → Prop} [DecidablePred ok] (hs : w ≤ 10 ∧ h ≤ 10) (hok : ∀ e, ok e → Has w h e.1 e.2) {c : Cel} : ∀ (L : List Cel) {s : (Nat → Int) × List Cel}, BInv w h s.1 (c :: s.2) → BInv w h (L.foldl (visit ok c) s).1 (c :: (L.foldl (visit ok c) s).2)
  | [], s, b => b
  | e :: r, s, b => fold_inv hs hok r (visit_inv hs hok b)
def steps (w h : Int) (g : Nat → Int) (c : Cel) : Nat → Int := far (okS w h g false) c
end Go.DM
