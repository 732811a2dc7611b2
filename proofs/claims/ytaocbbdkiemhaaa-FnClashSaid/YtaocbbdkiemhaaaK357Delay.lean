/- The least delay, on both sides; the law. -/
import Derived.Test.YtaocbbdkiemhaaaK357Walk2
import Derived.Test.YtaocbbdkiemhaaaK357Those
import Derived.Test.YtaocbbdkiemhaaaK357Trap
set_option linter.unusedSimpArgs false
set_option linter.unusedVariables false
set_option maxHeartbeats 4000000
namespace Go.DM
set_option linter.unusedSectionVars false
variable [Tok]
open Go.IntWalk
variable {w h : Int} {g : Nat → Int} {cs : List S}

section
variable {Γ : Nat → Option Fn} {dsts : Nat → Option Nat} {ops : List Oper} {Q : St → Prop} {σ : St} {d : Option Nat} {g : Option (Nat × Bool)} {l1 l2 l3 l4 : List Nat}
theorem WR.mksC {e n : Nat} {k1 k2 : IntKind} {l c : Opd} (hw : wanted dsts σ.env g = some true) (hl : ev σ.env l = .a (.d (.s (.int k1 (n : Nat))))) (hc : ev σ.env c = .a (.d (.s (.int k2 (n : Nat))))) (hn : n ≤ 2000000) (hp : noPar σ [e] = true)
    (K : WR Γ dsts ops Q (set (some e) (.a (.sl e 0 n 2)) (put e (.flat false (encC (List.replicate n (0, 0)))) (kill [e] σ)))) : WR Γ dsts (⟨some e, .mks 2 [.int .i8 0, .int .i8 0] l c, g, l1, l2, l3, l4⟩ :: ops) Q σ := by
  refine WR.mk (d := e) (ob := .flat false (encC (List.replicate n (0, 0)))) hw rfl rfl ?_ hp K
  simp only [makes, hl, hc, asI]
  rw [if_pos ⟨by omega, by trivial, by simp only [big]; omega, by trivial⟩, Int.toNat_natCast, encC_rep]
theorem WR.s1 {a : Opd} {l : List Cel} (hw : wanted dsts σ.env g = some true) (ha : ev σ.env a = .a (.d (.sl l.length 2 (encC l)))) (hl : 1 ≤ l.length)
    (K : WR Γ dsts ops Q (set d (.a (.d (.sl 1 2 (encC [gC l 0])))) σ)) : WR Γ dsts (⟨d, .slc (.sl 2) a none (some (.c (.int .i64 1))), g, l1, l2, l3, l4⟩ :: ops) Q σ := by
  have hlen := encC_length l
  refine WR.q hw ?_ K
  obtain ⟨x, r, rfl⟩ : ∃ x r, l = x :: r := by cases l with | nil => simp at hl | cons x r => exact ⟨x, r, rfl⟩
  show slc (.sl 2) (ev σ.env a) none (some (sv (.int .i64 1))) = _
  rw [ha]
  simp [slc, bound, asI, sv, encC_length]
  simp [encC, gC]
end
def half (n t : Nat) (c : Cel) : List Cel := List.replicate t c ++ List.replicate (n - t) (0, 0)
theorem half_len {n t : Nat} {c : Cel} (h : t ≤ n) : (half n t c).length = n := by simp [half]; omega
theorem half_step {n t k : Nat} {c : Cel} (ht : t + k ≤ n) (hk : k ≤ t) :
    (encC (half n t c)).take (t * 2) ++ ((encC (half n t c)).take (t * 2)).take (k * 2) ++ (encC (half n t c)).drop (t * 2 + k * 2) = encC (half n (t + k) c) := by
  rw [encC_tk, encC_tk, ← Nat.add_mul, encC_dr, ← encC_append, ← encC_append]
  congr 1
  have h1 : (half n t c).take t = List.replicate t c := by
    unfold half; rw [List.take_left' (by simp)]
  have h2 : (half n t c).drop (t + k) = List.replicate (n - (t + k)) (0, 0) := by
    unfold half
    rw [List.drop_append, List.length_replicate, List.drop_eq_nil_of_le (by simp), List.nil_append, show t + k - t = k by omega, List.drop_replicate]
    congr 1; omega
  rw [h1, h2, List.take_replicate, Nat.min_eq_left hk, List.replicate_append_replicate]
  rfl
theorem half_one {n : Nat} {c : Cel} : (encC (List.replicate n (0, 0))).take 0 ++ (encC [c]).take (Nat.min 1 n * 2) ++ (encC (List.replicate n (0, 0))).drop (0 + Nat.min 1 n * 2) = encC (half n (Nat.min 1 n) c) := by
  cases n with
  | zero => rfl
  | succ n =>
    rw [show Nat.min 1 (n + 1) = 1 from Nat.min_eq_left (by omega)]
    simp [half, List.replicate_succ, encC]
theorem repeatC_gives (n : Nat) (c : Cel) (hn : n ≤ 1000) : Gives G 171 [.d (.sl 1 2 (encC [c])), ai .i64 n] ⟨[.own n 2 (encC (List.replicate n c))], []⟩ := by
  refine Gives.by rfl rfl (W.seq ?_)
  repeat' first | ((with_reducible apply WR.c_ss (f := 66) (fn := Code.f66)); exact rfl; exact rfl; exact rfl; (first | exact rfl); (focus ((repeat' first | exact args_nil | apply args_d | exact toD_d rfl | exact rfl); done)); exact mul_gives _ (by omega)) | ((with_reducible apply WR.mv); exact rfl; exact rfl) | ((with_reducible apply WR.mvt); exact rfl; exact rfl) | ((with_reducible apply WR.cv); exact rfl; exact rfl; (first | exact i64_in _ (by omega) | exact u64_in _ (by omega))) | ((with_reducible apply WR.nil)) | (with_reducible refine andThen_n ?_) | (with_reducible refine W.seq ?_) | (with_reducible refine W.region ?_) | (with_reducible refine W.skip ?_) | ((with_reducible apply W.condF); exact rfl) | (intro hb; try (exfalso; omega)) | ((with_reducible apply WR.lss); exact rfl; exact rfl; exact rfl) | ((with_reducible apply WR.gtr); exact rfl; exact rfl; exact rfl) | ((with_reducible apply WR.ex); exact rfl; exact rfl) | ((with_reducible apply WR.le); exact rfl; exact rfl) | ((with_reducible apply WR.pk); exact rfl; exact rfl)
  (with_reducible apply WR.mksC); exact rfl; exact rfl; exact rfl; exact (by omega); exact rfl
  repeat' first | ((with_reducible apply WR.mv); exact rfl; exact rfl) | ((with_reducible apply WR.nil)) | (with_reducible refine andThen_n ?_) | (with_reducible refine W.seq ?_) | (with_reducible refine W.region ?_)
  (with_reducible apply WR.cy); exact rfl; exact (fun s h => by cases h); exact rfl; exact rfl; exact rfl; exact (by rw [encC_length, List.length_replicate]; omega)
  rw [half_one]
  have hm1 : Nat.min 1 n ≤ n := Nat.min_le_right ..
  have hm2 : n ≠ 0 → 1 ≤ Nat.min 1 n := fun h => Nat.le_min.2 ⟨Nat.le_refl _, by omega⟩
  generalize Nat.min 1 n = t0 at hm1 hm2 ⊢
  repeat' first | ((with_reducible apply WR.mv); exact rfl; exact rfl) | ((with_reducible apply WR.nil)) | (with_reducible refine andThen_n ?_) | (with_reducible refine W.seq ?_) | (with_reducible refine W.block ?_)
  (refine (?_ : W _ (Code.loop _) _ _))
  (refine W.loopM [7] [] [] (fun t : (Nat) => (n - t : Nat)) (fun t : (Nat) => (t ≤ n ∧ (n ≠ 0 → 1 ≤ t) : Prop)) (fun t : (Nat) => [(8, .a (.d (.s (.int .i64 (t : Nat)))))]) (fun t : (Nat) => [(30, .flat false (encC (half n t c)))]) t0 (⟨hm1, hm2⟩) ⟨rfl, trivial⟩ ⟨rfl, trivial⟩ trivial ?_)
  rintro t σ hP hN; dsimp only [setL, putL] at hP ⊢
  repeat' first | ((with_reducible apply WR.mv); exact rfl; exact rfl) | ((with_reducible apply WH.mv); exact rfl; exact rfl; exact rfl) | ((with_reducible apply WR.nil)) | (with_reducible refine andThen_n ?_) | (with_reducible refine andThen_x ?_) | (with_reducible refine inB_x ?_) | (with_reducible refine W.seq ?_) | (with_reducible refine W.region ?_) | (with_reducible refine W.skip ?_) | (with_reducible refine W.ret ?_) | (with_reducible refine W.exit ?_) | (with_reducible refine W.block ?_) | ((with_reducible apply W.condT); exact rfl) | ((with_reducible apply W.condF); exact rfl) | (with_reducible refine W.draw ?_) | (intro hb; try (exfalso; omega)) | ((with_reducible apply WR.lss); exact rfl; exact rfl; exact rfl) | ((with_reducible apply WR.le); exact rfl; exact rfl) | ((with_reducible apply WH.s2x); exact rfl; exact rfl; (first | exact rfl); (first | exact rfl); exact ⟨by omega, by omega⟩; exact rfl)
  · have hk : Nat.min t (n - t) ≤ n - t := Nat.min_le_right ..
    have hk2 : Nat.min t (n - t) ≤ t := Nat.min_le_left ..
    have hk3 : 1 ≤ Nat.min t (n - t) := Nat.le_min.2 ⟨by omega, by omega⟩
    have hl := half_len (n := n) (t := t) (c := c) (by omega)
    (with_reducible apply WH.cy); exact rfl; exact (fun s h => by cases h); exact rfl; exact rfl; exact elems_sl rfl rfl (by rw [encC_length, hl]; omega); exact (by rw [encC_length, hl]; omega); exact rfl
    simp only [Int.toNat_natCast, Nat.sub_zero, Nat.zero_add, Nat.zero_mul, List.drop_zero]
    rw [half_step (by omega) hk2]
    generalize Nat.min t (n - t) = k at hk hk2 hk3
    repeat' first | ((with_reducible apply WH.mv); exact rfl; exact rfl; exact rfl) | (with_reducible refine andThen_n ?_) | (with_reducible refine inB_n ?_) | ((with_reducible apply WH.nil)) | ((with_reducible apply WH.ad); exact rfl; exact rfl; exact rfl; (first | exact i64_in _ (by omega)))
    (refine W.nxt (t + k) (by first | omega | (dsimp only; omega)) ?_ ⟨rfl, trivial⟩ ⟨rfl, trivial⟩ ⟨rfl, trivial⟩ trivial trivial); (try dsimp only)
    omega
  · have e : half n t c = List.replicate n c := by
      have : t = n := by omega
      subst this
      simp [half]
    rw [e]
    have hlr : (encC (List.replicate n c)).length = n * 2 := by rw [encC_length, List.length_replicate]
    repeat' first | ((with_reducible apply Done.f); (intro hh hh2; exact (nomatch hh2)); (focus ((repeat' first | exact all_nil | apply all_cons | exact res_tmp rfl); done)); (focus ((repeat' first | exact all_nil | apply all_cons | exact retOf_o rfl rfl (by first | assumption)); done)); exact rfl; (focus ((repeat' first | exact outs_nil | apply outs_d); done)))
    all_goals rfl
theorem repeatC_gives' (n : Nat) (c : Cel) (hn : n ≤ 1000) : Gives G 171 [.d (.sl 1 2 (encC [c])), ai .i64 n] ⟨[.own (List.replicate n c).length 2 (encC (List.replicate n c))], []⟩ := by
  rw [List.length_replicate]; exact repeatC_gives n c hn

/-- The first number from t on, before m, of which P holds. -/
def firstFrom (P : Nat → Prop) [DecidablePred P] (m : Nat) : Nat → Nat → Option Nat
  | 0, _ => none
  | f + 1, t => if t < m then (if P t then some t else firstFrom P m f (t + 1)) else none
def firstOf (P : Nat → Prop) [DecidablePred P] (m t : Nat) : Option Nat := firstFrom P m (m - t + 1) t
theorem firstOf_step (P : Nat → Prop) [DecidablePred P] (m t : Nat) : firstOf P m t = if t < m then (if P t then some t else firstOf P m (t + 1)) else none := by
  by_cases h : t < m
  · unfold firstOf
    rw [show m - t + 1 = (m - (t + 1) + 1) + 1 by omega, firstFrom]
  · unfold firstOf
    rw [if_neg h, firstFrom, if_neg h]
/-- A walk that begins n steps later. -/
def late (b : List Cel) (n : Nat) : List Cel := List.replicate n (gC b 0) ++ b
theorem late_len (b : List Cel) (n : Nat) : (late b n).length = n + b.length := by simp [late]
theorem late_succ (b : List Cel) (n : Nat) : [gC b 0] ++ late b n = late b (n + 1) := by simp [late, List.replicate_succ]
def Clear (a b : List Cel) (n : Nat) : Prop := ∀ s, s < max a.length (late b n).length → ¬ Clash a (late b n) s
instance (a b : List Cel) (n : Nat) : Decidable (Clear a b n) := Nat.decidableBallLT ..
def delayR (x : Option Nat) : List Ret := match x with | some n => [.s (.int .i64 n), .s (.int .i64 0)] | none => [.s (.int .i64 0), .s (.int .i64 6)]
theorem leastDelayS_gives (l : IsLawn w h g cs) (a b : List Cel) (la : a.length ≤ 3000000) (lb : b.length ≤ 3000000) (ba : ∀ i, i < a.length → -128 ≤ (gC a i).1 ∧ (gC a i).1 ≤ 127 ∧ -128 ≤ (gC a i).2 ∧ (gC a i).2 ≤ 127) (bb : ∀ i, i < b.length → -128 ≤ (gC b i).1 ∧ (gC b i).1 ≤ 127 ∧ -128 ≤ (gC b i).2 ∧ (gC b i).2 ≤ 127)
    (h0 : walksC w h g a b = 0) (ha : 1 ≤ a.length ∧ a.length ≤ 201) (hb : 1 ≤ b.length ∧ b.length ≤ 201) : Gives G 151 [aa cs, asl a, asl b] ⟨delayR (firstOf (Clear a b) 21 0), []⟩ := by
  have hv := l04Several_gives l a b la lb ba bb
  rw [h0] at hv
  have hl : ∀ n, n ≤ 21 → 1 ≤ (late b n).length ∧ (late b n).length ≤ 300 := fun n hn => by rw [late_len]; omega
  refine Gives.by rfl rfl (W.seq ?_)
  repeat' first | ((with_reducible apply WR.c_s (f := 168) (fn := Code.f168)); exact rfl; exact rfl; exact rfl; (first | exact rfl); (focus ((repeat' first | exact args_nil | apply args_d | exact toD_d rfl | exact toD_ptr rfl rfl | (apply toD_row2; exact rfl; exact rfl) | exact rfl); done)); exact hv) | ((with_reducible apply WR.mv); exact rfl; exact rfl) | ((with_reducible apply WR.nil)) | (with_reducible refine andThen_n ?_) | (with_reducible refine W.seq ?_) | (with_reducible refine W.region ?_) | (with_reducible refine W.skip ?_) | (with_reducible refine W.block ?_) | ((with_reducible apply W.condF); exact rfl) | (intro hb; try (exfalso; omega)) | ((with_reducible apply WR.bw); exact rfl; exact rfl; exact rfl; exact rfl; exact rfl; (first | exact rfl)) | ((with_reducible apply WR.rn); exact rfl; exact rfl; exact rfl; exact rfl; (first | exact rfl); (first | exact rfl)) | ((with_reducible apply WR.apA); exact rfl; exact rfl; exact rfl; (first | exact rfl); (first | exact elemsC rfl); (first | (simp only [List.length_append, List.length_cons, List.length_nil, List.length_replicate]; omega))) | ((with_reducible apply WR.bs0); exact rfl; (first | exact rfl)) | ((with_reducible apply WR.neq); exact rfl; exact rfl; exact rfl) | ((with_reducible apply WR.bx); exact rfl; exact rfl; exact (by first | exact IsLawn.len (by assumption) | exact rfl); (first | exact rfl))
  rw [show [] ++ b = late b 0 from rfl]
  (refine (?_ : W _ (Code.loop _) _ _))
  (refine W.loopM [1, 2] [] [9, 32, 44, 46] (fun n : (Nat) => (21 - n : Nat)) (fun n : (Nat) => (n ≤ 21 ∧ firstOf (Clear a b) 21 0 = firstOf (Clear a b) 21 n : Prop)) (fun n : (Nat) => [(9, .a (.sl 9 0 (late b n).length 2)), (10, .a (.d (.s (.int .i64 (n : Nat)))))]) (fun n : (Nat) => [(9, .flat false (encC (late b n)))]) 0 (⟨by omega, rfl⟩) ⟨rfl, rfl, trivial⟩ ⟨rfl, trivial⟩ ⟨(by (repeat' first | exact rfl | assumption | (with_reducible apply noPar_set) | ((with_reducible apply noPar_puto); exact rfl) | (with_reducible apply noPar_put) | (with_reducible apply noPar_putv) | (with_reducible apply noPar_putm) | (with_reducible apply noPar_putr) | (with_reducible apply noPar_kill) | ((with_reducible apply noPar_mix); exact rfl) | ((with_reducible apply noPar_mixT); exact rfl)); done), (by (repeat' first | exact rfl | assumption | (with_reducible apply noPar_set) | ((with_reducible apply noPar_puto); exact rfl) | (with_reducible apply noPar_put) | (with_reducible apply noPar_putv) | (with_reducible apply noPar_putm) | (with_reducible apply noPar_putr) | (with_reducible apply noPar_kill) | ((with_reducible apply noPar_mix); exact rfl) | ((with_reducible apply noPar_mixT); exact rfl)); done), (by (repeat' first | exact rfl | assumption | (with_reducible apply noPar_set) | ((with_reducible apply noPar_puto); exact rfl) | (with_reducible apply noPar_put) | (with_reducible apply noPar_putv) | (with_reducible apply noPar_putm) | (with_reducible apply noPar_putr) | (with_reducible apply noPar_kill) | ((with_reducible apply noPar_mix); exact rfl) | ((with_reducible apply noPar_mixT); exact rfl)); done), (by (repeat' first | exact rfl | assumption | (with_reducible apply noPar_set) | ((with_reducible apply noPar_puto); exact rfl) | (with_reducible apply noPar_put) | (with_reducible apply noPar_putv) | (with_reducible apply noPar_putm) | (with_reducible apply noPar_putr) | (with_reducible apply noPar_kill) | ((with_reducible apply noPar_mix); exact rfl) | ((with_reducible apply noPar_mixT); exact rfl)); done), trivial⟩ ?_)
  rintro n σ hP hN; dsimp only [setL, putL] at hP ⊢; obtain ⟨n9, hN⟩ := hN; obtain ⟨n32, hN⟩ := hN; obtain ⟨n44, hN⟩ := hN; obtain ⟨n46, hN⟩ := hN
  obtain ⟨hn, he⟩ := hP
  have hst := firstOf_step (Clear a b) 21 n
  have hln := hl n hn
  by_cases hp : Clear a b n
  · have hc := l04Clash_gives a (late b n) (by omega) (by omega)
    rw [clashAt_none.2 hp] at hc
    repeat' first | ((with_reducible apply WR.c_ssss (f := 169) (fn := Code.f169)); exact rfl; exact rfl; exact rfl; (first | exact rfl); (focus ((repeat' first | exact args_nil | apply args_d | exact toD_d rfl | exact toD_slC rfl rfl (by first | exact rfl) | (apply toD_row2; exact rfl; exact rfl) | exact all_nil | apply all_cons | exact rfl); done)); exact hc) | ((with_reducible apply WR.mv); exact rfl; exact rfl) | ((with_reducible apply WR.mvt); exact rfl; exact rfl) | ((with_reducible apply WR.ex); exact rfl; exact rfl) | ((with_reducible apply WR.nil)) | (with_reducible refine andThen_n ?_) | (with_reducible refine andThen_x ?_) | (with_reducible refine andThen_r ?_) | (with_reducible refine inB_r ?_) | (with_reducible refine inB_x ?_) | (with_reducible refine W.seq ?_) | (with_reducible refine W.region ?_) | (with_reducible refine W.skip ?_) | (with_reducible refine W.ret ?_) | (with_reducible refine W.exit ?_) | (with_reducible refine W.block ?_) | ((with_reducible apply W.condT); exact rfl) | ((with_reducible apply W.condF); exact rfl) | ((with_reducible apply Done.f); (intro hh hh2; exact (nomatch hh2)); (focus ((repeat' first | exact all_nil | apply all_cons | exact res_tmp rfl | exact rfl); done)); (focus ((repeat' first | exact all_nil | apply all_cons | exact retOf_s rfl | exact rfl); done)); exact rfl; (focus ((repeat' first | exact outs_nil | apply outs_d | exact rfl); done))) | (intro hb; try (exfalso; omega)) | ((with_reducible apply WR.bw); exact rfl; exact rfl; exact rfl; exact rfl; exact rfl; (first | exact rfl | assumption)) | ((with_reducible apply WR.leq); exact rfl; exact rfl; exact rfl) | ((with_reducible apply WR.un); exact rfl; exact rfl)
    · rw [he, hst, if_pos (by omega), if_pos hp]; rfl
    · rw [he, hst, if_neg (by omega)]; rfl
  · have hc := l04Clash_gives a (late b n) (by omega) (by omega)
    obtain ⟨t, ht⟩ : ∃ t, clashAt a (late b n) (max a.length (late b n).length) 0 = some t := Option.ne_none_iff_exists'.1 (fun e => hp (clashAt_none.1 e))
    rw [ht] at hc
    repeat' first | ((with_reducible apply WR.c_ssss (f := 169) (fn := Code.f169)); exact rfl; exact rfl; exact rfl; (first | exact rfl); (focus ((repeat' first | exact args_nil | apply args_d | exact toD_d rfl | exact toD_slC rfl rfl (by first | exact rfl | omega) | (apply toD_row2; exact rfl; exact rfl) | exact all_nil | apply all_cons | exact rfl); done)); exact hc) | ((with_reducible apply WR.mv); exact rfl; exact rfl) | ((with_reducible apply WR.mvt); exact rfl; exact rfl) | ((with_reducible apply WR.ex); exact rfl; exact rfl) | ((with_reducible apply WR.nil)) | (with_reducible refine andThen_n ?_) | (with_reducible refine andThen_x ?_) | (with_reducible refine inB_n ?_) | (with_reducible refine inB_x ?_) | (with_reducible refine W.seq ?_) | (with_reducible refine W.region ?_) | (with_reducible refine W.skip ?_) | (with_reducible refine W.ret ?_) | (with_reducible refine W.exit ?_) | (with_reducible refine W.block ?_) | ((with_reducible apply W.condT); exact rfl) | ((with_reducible apply W.condF); exact rfl) | ((with_reducible apply Done.f); (intro hh hh2; exact (nomatch hh2)); (focus ((repeat' first | exact all_nil | apply all_cons | exact res_tmp rfl | exact rfl); done)); (focus ((repeat' first | exact all_nil | apply all_cons | exact retOf_s rfl | exact rfl); done)); exact rfl; (focus ((repeat' first | exact outs_nil | apply outs_d | exact rfl); done))) | (intro hb; try (exfalso; omega)) | ((with_reducible apply WR.bw); exact rfl; exact rfl; exact rfl; exact rfl; exact rfl; (first | exact rfl | assumption | (focus ((repeat' first | exact rfl | assumption | (with_reducible apply noPar_set) | (with_reducible apply noPar_putr) | (with_reducible apply noPar_kill)); done)))) | ((with_reducible apply WR.rn); exact rfl; exact rfl; exact rfl; exact rfl; (first | exact rfl | assumption | (focus ((repeat' first | exact rfl | assumption | (with_reducible apply noPar_set) | (with_reducible apply noPar_putr) | (with_reducible apply noPar_kill)); done))); (first | exact rfl | assumption | (focus ((repeat' first | exact rfl | assumption | (with_reducible apply noPar_set) | (with_reducible apply noPar_putr) | (with_reducible apply noPar_kill)); done)))) | ((with_reducible apply WR.apA); exact rfl; exact rfl; exact rfl; (first | exact rfl | omega); (first | exact elemsCo rfl rfl); (first | omega | (simp only [List.length_append, List.length_cons, List.length_nil, List.length_replicate]; omega))) | ((with_reducible apply WR.bs1); exact rfl; exact rfl; (first | exact rfl | assumption | (focus ((repeat' first | exact rfl | assumption | (with_reducible apply noPar_set) | (with_reducible apply noPar_putr) | (with_reducible apply noPar_kill)); done)))) | ((with_reducible apply WR.leq); exact rfl; exact rfl; exact rfl) | ((with_reducible apply WR.ad); exact rfl; exact rfl; exact rfl; (first | exact i64_in _ (by omega) | assumption)) | ((with_reducible apply WR.id); exact rfl; exact rfl; exact rfl; omega; (first | exact Nat.le_of_eq (encC_length _).symm)) | ((with_reducible apply WR.ldd); exact rfl; exact rfl; (first | exact ldCd (by first | omega))) | ((with_reducible apply WR.un); exact rfl; exact rfl)
    · (refine W.nxt (n + 1) (by first | omega | (dsimp only; omega)) ?_ ⟨rfl, rfl, trivial⟩ ⟨rfl, trivial⟩ ⟨rfl, rfl, trivial⟩ trivial ⟨(by (repeat' first | exact rfl | assumption | (with_reducible apply noPar_set) | ((with_reducible apply noPar_puto); exact rfl) | (with_reducible apply noPar_put) | (with_reducible apply noPar_putv) | (with_reducible apply noPar_putm) | (with_reducible apply noPar_putr) | (with_reducible apply noPar_kill) | ((with_reducible apply noPar_mix); exact rfl) | ((with_reducible apply noPar_mixT); exact rfl)); done), (by (repeat' first | exact rfl | assumption | (with_reducible apply noPar_set) | ((with_reducible apply noPar_puto); exact rfl) | (with_reducible apply noPar_put) | (with_reducible apply noPar_putv) | (with_reducible apply noPar_putm) | (with_reducible apply noPar_putr) | (with_reducible apply noPar_kill) | ((with_reducible apply noPar_mix); exact rfl) | ((with_reducible apply noPar_mixT); exact rfl)); done), (by (repeat' first | exact rfl | assumption | (with_reducible apply noPar_set) | ((with_reducible apply noPar_puto); exact rfl) | (with_reducible apply noPar_put) | (with_reducible apply noPar_putv) | (with_reducible apply noPar_putm) | (with_reducible apply noPar_putr) | (with_reducible apply noPar_kill) | ((with_reducible apply noPar_mix); exact rfl) | ((with_reducible apply noPar_mixT); exact rfl)); done), (by (repeat' first | exact rfl | assumption | (with_reducible apply noPar_set) | ((with_reducible apply noPar_puto); exact rfl) | (with_reducible apply noPar_put) | (with_reducible apply noPar_putv) | (with_reducible apply noPar_putm) | (with_reducible apply noPar_putr) | (with_reducible apply noPar_kill) | ((with_reducible apply noPar_mix); exact rfl) | ((with_reducible apply noPar_mixT); exact rfl)); done), trivial⟩); (try dsimp only)
      exact ⟨by omega, by rw [he, hst, if_pos (by omega), if_neg hp]⟩
    · rw [he, hst, if_neg (by omega)]; rfl
theorem leastDelay_gives (l : IsLawn w h g cs) (a b : List Cel) (la : a.length ≤ 3000000) (lb : b.length ≤ 3000000)
    (h0 : walksC w h g a b = 0) (ha : 1 ≤ a.length ∧ a.length ≤ 201) (lb1 : 1 ≤ b.length ∧ b.length ≤ 201) : Gives G 153 [aa cs, asl a, asl b] ⟨delayR (firstOf (Clear a b) 21 0), []⟩ := by
  have hv := walkCode_gives l a b la lb
  rw [h0] at hv
  have hl : ∀ n, n ≤ 21 → 1 ≤ (late b n).length ∧ (late b n).length ≤ 300 := fun n hn => by rw [late_len]; omega
  refine Gives.by rfl rfl (W.seq ?_)
  repeat' first | ((with_reducible apply WR.c_s (f := 170) (fn := Code.f170)); exact rfl; exact rfl; exact rfl; (first | exact rfl); (focus ((repeat' first | exact args_nil | apply args_d | exact toD_d rfl | (apply toD_row2; exact rfl; exact rfl) | exact rfl); done)); exact hv) | ((with_reducible apply WR.mv); exact rfl; exact rfl) | ((with_reducible apply WR.nil)) | (with_reducible refine andThen_n ?_) | (with_reducible refine W.seq ?_) | (with_reducible refine W.region ?_) | (with_reducible refine W.skip ?_) | (with_reducible refine W.block ?_) | ((with_reducible apply W.condF); exact rfl) | (intro hb; try (exfalso; omega)) | ((with_reducible apply WR.bw); exact rfl; exact rfl; exact rfl; exact rfl; exact rfl; (first | exact rfl)) | ((with_reducible apply WR.neq); exact rfl; exact rfl; exact rfl) | ((with_reducible apply WR.bx); exact rfl; exact rfl; exact (by first | exact IsLawn.len (by assumption) | exact rfl); (first | exact rfl)) | ((with_reducible apply WR.ld); exact rfl; exact rfl; exact rfl; (first | exact loadC_all (IsLawn.len (by assumption))))
  (refine (?_ : W _ (Code.loop _) _ _))
  (refine W.loopM [1, 2] [] [27, 29] (fun n : (Nat) => (21 - n : Nat)) (fun n : (Nat) => (n ≤ 21 ∧ firstOf (Clear a b) 21 0 = firstOf (Clear a b) 21 n : Prop)) (fun n : (Nat) => [(21, .a (.d (.s (.int .i64 (n : Nat)))))]) (fun n : (Nat) => []) 0 (⟨by omega, rfl⟩) ⟨rfl, trivial⟩ trivial ⟨(by (repeat' first | exact rfl | assumption | (with_reducible apply noPar_set) | ((with_reducible apply noPar_puto); exact rfl) | (with_reducible apply noPar_put) | (with_reducible apply noPar_putv) | (with_reducible apply noPar_putm) | (with_reducible apply noPar_putr) | (with_reducible apply noPar_kill) | ((with_reducible apply noPar_mix); exact rfl) | ((with_reducible apply noPar_mixT); exact rfl)); done), (by (repeat' first | exact rfl | assumption | (with_reducible apply noPar_set) | ((with_reducible apply noPar_puto); exact rfl) | (with_reducible apply noPar_put) | (with_reducible apply noPar_putv) | (with_reducible apply noPar_putm) | (with_reducible apply noPar_putr) | (with_reducible apply noPar_kill) | ((with_reducible apply noPar_mix); exact rfl) | ((with_reducible apply noPar_mixT); exact rfl)); done), trivial⟩ ?_)
  rintro n σ hP hN; dsimp only [setL, putL] at hP ⊢; obtain ⟨n27, hN⟩ := hN; obtain ⟨n29, hN⟩ := hN
  obtain ⟨hn, he⟩ := hP
  have hst := firstOf_step (Clear a b) 21 n
  have hln := hl n hn
  repeat' first | ((with_reducible apply WR.s1); exact rfl; exact rfl; exact lb1.1) | ((with_reducible apply WR.c_o (f := 171) (fn := Code.f171)); exact rfl; exact rfl; exact rfl; (first | exact rfl); (focus ((repeat' first | exact args_nil | apply args_d | exact toD_d rfl | exact all_nil | apply all_cons | exact rfl); done)); exact repeatC_gives' _ _ (by omega); (first | exact rfl | assumption)) | ((with_reducible apply WR.mv); exact rfl; exact rfl) | ((with_reducible apply WR.nil)) | (with_reducible refine andThen_n ?_) | (with_reducible refine andThen_x ?_) | (with_reducible refine inB_x ?_) | (with_reducible refine W.seq ?_) | (with_reducible refine W.region ?_) | (with_reducible refine W.skip ?_) | (with_reducible refine W.ret ?_) | (with_reducible refine W.exit ?_) | (with_reducible refine W.block ?_) | ((with_reducible apply W.condT); exact rfl) | ((with_reducible apply W.condF); exact rfl) | ((with_reducible apply Done.f); (intro hh hh2; exact (nomatch hh2)); (focus ((repeat' first | exact all_nil | apply all_cons | exact res_tmp rfl | exact rfl); done)); (focus ((repeat' first | exact all_nil | apply all_cons | exact retOf_s rfl | exact rfl); done)); exact rfl; (focus ((repeat' first | exact outs_nil | apply outs_d | exact rfl); done))) | (intro hb; try (exfalso; omega)) | ((with_reducible apply WR.lss); exact rfl; exact rfl; exact rfl) | ((with_reducible apply WR.le); exact rfl; exact rfl) | ((with_reducible apply WR.apA); exact rfl; exact rfl; exact rfl; (first | exact rfl); (first | exact elemsC rfl); (first | (simp only [List.length_append, List.length_cons, List.length_nil, List.length_replicate]; omega))) | ((with_reducible apply WR.mx); exact rfl; exact rfl; exact rfl)
  · rw [show List.replicate n (gC b 0) ++ b = late b n from rfl]
    generalize hL : late b n = L at hln
    rw [show max (a.length : Int) (L.length : Int) = ((max a.length L.length : Nat) : Int) by omega]
    generalize hm : max a.length L.length = m
    (refine (?_ : W _ (Code.loop _) _ _))
    (refine W.loopM [1, 2, 9, 10, 21, 34] [27] [27, 29] (fun zz : (Nat) × (Bool) => match zz with | (t, any) => (m - t : Nat)) (fun zz : (Nat) × (Bool) => match zz with | (t, any) => (t ≤ m ∧ (any = true ↔ ∃ s, s < t ∧ Clash a L s) : Prop)) (fun zz : (Nat) × (Bool) => match zz with | (t, any) => [(11, .a (.d (.s (.bool any)))), (35, .a (.d (.s (.int .i64 (t : Nat)))))]) (fun zz : (Nat) × (Bool) => match zz with | (t, any) => []) (0, false) (⟨by omega, by simp⟩) ⟨rfl, rfl, trivial⟩ trivial ⟨(by (repeat' first | exact rfl | assumption | (with_reducible apply noPar_set) | ((with_reducible apply noPar_puto); exact rfl) | (with_reducible apply noPar_put) | (with_reducible apply noPar_putv) | (with_reducible apply noPar_putm) | (with_reducible apply noPar_putr) | (with_reducible apply noPar_kill) | ((with_reducible apply noPar_mix); exact rfl) | ((with_reducible apply noPar_mixT); exact rfl)); done), (by (repeat' first | exact rfl | assumption | (with_reducible apply noPar_set) | ((with_reducible apply noPar_puto); exact rfl) | (with_reducible apply noPar_put) | (with_reducible apply noPar_putv) | (with_reducible apply noPar_putm) | (with_reducible apply noPar_putr) | (with_reducible apply noPar_kill) | ((with_reducible apply noPar_mix); exact rfl) | ((with_reducible apply noPar_mixT); exact rfl)); done), trivial⟩ ?_)
    rintro ⟨t, any⟩ σ hP hN; dsimp only [setL, putL] at hP ⊢; obtain ⟨n27, hN⟩ := hN; obtain ⟨n29, hN⟩ := hN
    obtain ⟨ht, hany⟩ := hP
    by_cases htm : t < m
    · cases any
      · have hno : ¬ ∃ s, s < t ∧ Clash a L s := fun q => by have := hany.2 q; cases this
        repeat' first | ((with_reducible apply WR.c_p (f := 172) (fn := Code.f172)); exact rfl; exact rfl; exact rfl; (first | exact rfl); (focus ((repeat' first | exact args_nil | apply args_d | exact toD_d rfl | exact toD_slC rfl rfl (by first | exact rfl) | exact rfl); done)); exact clash_gives _ _ _ (by omega) (by omega) (by omega)) | ((with_reducible apply WR.mv); exact rfl; exact rfl) | ((with_reducible apply WR.nil)) | (with_reducible refine andThen_n ?_) | (with_reducible refine inB_n ?_) | (with_reducible refine W.seq ?_) | (with_reducible refine W.region ?_) | (with_reducible refine W.skip ?_) | (with_reducible refine W.block ?_) | ((with_reducible apply W.condT); exact rfl) | (intro hb; try (exfalso; omega)) | ((with_reducible apply WR.lss); exact rfl; exact rfl; exact rfl) | ((with_reducible apply WR.ad); exact rfl; exact rfl; exact rfl; (first | exact i64_in _ (by omega))) | ((with_reducible apply WR.pk); exact rfl; exact rfl)
        · (refine W.nxt (t + 1, true) (by first | omega | (dsimp only; omega)) ?_ ⟨rfl, rfl, trivial⟩ trivial ⟨rfl, rfl, rfl, rfl, rfl, rfl, trivial⟩ ⟨rfl, trivial⟩ ⟨(by (repeat' first | exact rfl | assumption | (with_reducible apply noPar_set) | ((with_reducible apply noPar_puto); exact rfl) | (with_reducible apply noPar_put) | (with_reducible apply noPar_putv) | (with_reducible apply noPar_putm) | (with_reducible apply noPar_putr) | (with_reducible apply noPar_kill) | ((with_reducible apply noPar_mix); exact rfl) | ((with_reducible apply noPar_mixT); exact rfl)); done), (by (repeat' first | exact rfl | assumption | (with_reducible apply noPar_set) | ((with_reducible apply noPar_puto); exact rfl) | (with_reducible apply noPar_put) | (with_reducible apply noPar_putv) | (with_reducible apply noPar_putm) | (with_reducible apply noPar_putr) | (with_reducible apply noPar_kill) | ((with_reducible apply noPar_mix); exact rfl) | ((with_reducible apply noPar_mixT); exact rfl)); done), trivial⟩); (try dsimp only)
          exact ⟨by omega, fun _ => ⟨t, by omega, by assumption⟩, fun _ => rfl⟩
        · (refine W.nxt (t + 1, false) (by first | omega | (dsimp only; omega)) ?_ ⟨rfl, rfl, trivial⟩ trivial ⟨rfl, rfl, rfl, rfl, rfl, rfl, trivial⟩ ⟨rfl, trivial⟩ ⟨(by (repeat' first | exact rfl | assumption | (with_reducible apply noPar_set) | ((with_reducible apply noPar_puto); exact rfl) | (with_reducible apply noPar_put) | (with_reducible apply noPar_putv) | (with_reducible apply noPar_putm) | (with_reducible apply noPar_putr) | (with_reducible apply noPar_kill) | ((with_reducible apply noPar_mix); exact rfl) | ((with_reducible apply noPar_mixT); exact rfl)); done), (by (repeat' first | exact rfl | assumption | (with_reducible apply noPar_set) | ((with_reducible apply noPar_puto); exact rfl) | (with_reducible apply noPar_put) | (with_reducible apply noPar_putv) | (with_reducible apply noPar_putm) | (with_reducible apply noPar_putr) | (with_reducible apply noPar_kill) | ((with_reducible apply noPar_mix); exact rfl) | ((with_reducible apply noPar_mixT); exact rfl)); done), trivial⟩); (try dsimp only)
          refine ⟨by omega, fun q => (by cases q), fun q => ?_⟩
          obtain ⟨s, h1, h2⟩ := q
          by_cases e : s = t
          · subst e; contradiction
          · exact absurd ⟨s, by omega, h2⟩ hno
      · obtain ⟨s, h1, h2⟩ := hany.1 rfl
        repeat' first | ((with_reducible apply WR.mv); exact rfl; exact rfl) | ((with_reducible apply WR.nil)) | (with_reducible refine andThen_n ?_) | (with_reducible refine inB_n ?_) | (with_reducible refine W.seq ?_) | (with_reducible refine W.region ?_) | (with_reducible refine W.skip ?_) | (with_reducible refine W.block ?_) | ((with_reducible apply W.condT); exact rfl) | (intro hb; try (exfalso; omega)) | ((with_reducible apply WR.off); exact rfl) | ((with_reducible apply WR.lss); exact rfl; exact rfl; exact rfl) | ((with_reducible apply WR.ad); exact rfl; exact rfl; exact rfl; (first | exact i64_in _ (by omega))) | ((with_reducible apply WR.pk); exact rfl; exact rfl)
        (refine W.nxt (t + 1, true) (by first | omega | (dsimp only; omega)) ?_ ⟨rfl, rfl, trivial⟩ trivial ⟨rfl, rfl, rfl, rfl, rfl, rfl, trivial⟩ ⟨rfl, trivial⟩ ⟨(by (repeat' first | exact rfl | assumption | (with_reducible apply noPar_set) | ((with_reducible apply noPar_puto); exact rfl) | (with_reducible apply noPar_put) | (with_reducible apply noPar_putv) | (with_reducible apply noPar_putm) | (with_reducible apply noPar_putr) | (with_reducible apply noPar_kill) | ((with_reducible apply noPar_mix); exact rfl) | ((with_reducible apply noPar_mixT); exact rfl)); done), (by (repeat' first | exact rfl | assumption | (with_reducible apply noPar_set) | ((with_reducible apply noPar_puto); exact rfl) | (with_reducible apply noPar_put) | (with_reducible apply noPar_putv) | (with_reducible apply noPar_putm) | (with_reducible apply noPar_putr) | (with_reducible apply noPar_kill) | ((with_reducible apply noPar_mix); exact rfl) | ((with_reducible apply noPar_mixT); exact rfl)); done), trivial⟩); (try dsimp only)
        exact ⟨by omega, fun _ => ⟨s, by omega, h2⟩, fun _ => rfl⟩
    · have hmt : t = m := by omega
      subst hmt
      have hap : Clear a b n ↔ ∀ s, s < t → ¬ Clash a L s := by rw [← hm, ← hL]; exact Iff.rfl
      cases any
      · have hp : Clear a b n := hap.2 fun s h1 h2 => by have := hany.2 ⟨s, h1, h2⟩; cases this
        repeat' first | ((with_reducible apply WR.mv); exact rfl; exact rfl) | ((with_reducible apply WR.nil)) | (with_reducible refine andThen_n ?_) | (with_reducible refine andThen_x ?_) | (with_reducible refine andThen_r ?_) | (with_reducible refine inB_r ?_) | (with_reducible refine inB_x ?_) | (with_reducible refine W.seq ?_) | (with_reducible refine W.region ?_) | (with_reducible refine W.ret ?_) | (with_reducible refine W.exit ?_) | ((with_reducible apply W.condT); exact rfl) | ((with_reducible apply W.condF); exact rfl) | ((with_reducible apply Done.f); (intro hh hh2; exact (nomatch hh2)); (focus ((repeat' first | exact all_nil | apply all_cons | exact res_tmp rfl); done)); (focus ((repeat' first | exact all_nil | apply all_cons | exact retOf_s rfl); done)); exact rfl; (focus ((repeat' first | exact outs_nil | apply outs_d); done))) | (intro hb; try (exfalso; omega)) | ((with_reducible apply WR.lss); exact rfl; exact rfl; exact rfl) | ((with_reducible apply WR.un); exact rfl; exact rfl)
        rw [he, hst, if_pos (by omega), if_pos hp]; rfl
      · obtain ⟨s, h1, h2⟩ := hany.1 rfl
        have hp : ¬ Clear a b n := fun q => hap.1 q s h1 h2
        repeat' first | ((with_reducible apply WR.mv); exact rfl; exact rfl) | ((with_reducible apply WR.nil)) | (with_reducible refine andThen_n ?_) | (with_reducible refine andThen_x ?_) | (with_reducible refine inB_n ?_) | (with_reducible refine inB_x ?_) | (with_reducible refine W.seq ?_) | (with_reducible refine W.region ?_) | (with_reducible refine W.skip ?_) | (with_reducible refine W.exit ?_) | ((with_reducible apply W.condF); exact rfl) | (intro hb; try (exfalso; omega)) | ((with_reducible apply WR.lss); exact rfl; exact rfl; exact rfl) | ((with_reducible apply WR.ad); exact rfl; exact rfl; exact rfl; (first | exact i64_in _ (by omega))) | ((with_reducible apply WR.un); exact rfl; exact rfl)
        (refine W.nxt (n + 1) (by first | omega | (dsimp only; omega)) ?_ ⟨rfl, trivial⟩ trivial ⟨rfl, rfl, trivial⟩ trivial ⟨(by (repeat' first | exact rfl | assumption | (with_reducible apply noPar_set) | ((with_reducible apply noPar_puto); exact rfl) | (with_reducible apply noPar_put) | (with_reducible apply noPar_putv) | (with_reducible apply noPar_putm) | (with_reducible apply noPar_putr) | (with_reducible apply noPar_kill) | ((with_reducible apply noPar_mix); exact rfl) | ((with_reducible apply noPar_mixT); exact rfl)); done), (by (repeat' first | exact rfl | assumption | (with_reducible apply noPar_set) | ((with_reducible apply noPar_puto); exact rfl) | (with_reducible apply noPar_put) | (with_reducible apply noPar_putv) | (with_reducible apply noPar_putm) | (with_reducible apply noPar_putr) | (with_reducible apply noPar_kill) | ((with_reducible apply noPar_mix); exact rfl) | ((with_reducible apply noPar_mixT); exact rfl)); done), trivial⟩); (try dsimp only)
        exact ⟨by omega, by rw [he, hst, if_pos (by omega), if_neg hp]⟩
  · rw [he, hst, if_neg (by omega)]; rfl
/-! The statement's own functions. -/
end Go.DM
