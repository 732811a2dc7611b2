/- A lawn is read from its text: both sides, the statement. -/
import Derived.Test.YteghgkdakhelfaaDoorK218Split
import Derived.Test.YteghgkdakhelfaaDoorK218Beside
import Derived.Test.YteghgkdakhelfaaDoorK218RowsPure
set_option linter.unusedSimpArgs false
set_option linter.unusedVariables false
set_option maxHeartbeats 4000000
namespace Go.DM
open Go.IntWalk
def lawnS (w h : Int) (q : Nat → Int) : List S := [.int .i8 w, .int .i8 h] ++ grid .u8 q
/-- A letter's kind, or -1. -/
def kinL (c : UInt8) : Int := Lib.indexByte [46, 35, 84, 61] c
theorem kinL_eq (c : UInt8) : kinL c = if c = 46 then 0 else if c = 35 then 1 else if c = 84 then 2 else if c = 61 then 3 else -1 := by
  unfold kinL
  simp only [Lib.indexByte, beq_iff_eq, eq_comm (b := c)]
  by_cases h0 : c = 46
  · simp [h0]
  by_cases h1 : c = 35
  · simp [h1]
  by_cases h2 : c = 84
  · simp [h2]
  by_cases h3 : c = 61
  · simp [h3]
  simp [h0, h1, h2, h3]
theorem u8_eq {c : UInt8} {n : Nat} (hn : n < 256) (h : (n : Int) = (c.toNat : Nat)) : c = UInt8.ofNat n := by
  have : n = c.toNat := by exact_mod_cast h
  rw [this]; simp
theorem l01Letter_gives (c : UInt8) : Gives G 237 [.d (.s (.int .u8 (c.toNat : Nat)))] (ri .i64 (kinL c)) := by
  have hk := kinL_eq c
  refine Gives.by rfl rfl (W.seq ?_)
  repeat' first | ((with_reducible apply WR.mv); exact rfl; exact rfl) | ((with_reducible apply WR.nil)) | (with_reducible refine andThen_n ?_) | (with_reducible refine W.seq ?_) | (with_reducible refine W.region ?_) | (with_reducible refine W.block ?_)
  (refine W.loopM [0] [] [] (fun i : (Nat) => (4 - i : Nat)) (fun i : (Nat) => (i ≤ 4 ∧ (0 < i → c ≠ 46) ∧ (1 < i → c ≠ 35) ∧ (2 < i → c ≠ 84) ∧ (3 < i → c ≠ 61) : Prop)) (fun i : (Nat) => [(3, .a (.d (.s (.int .i64 (i : Nat)))))]) (fun i : (Nat) => []) 0 (by (try dsimp only); first | omega | exact trivial | exact ⟨by omega, rfl⟩ | exact ⟨by omega, by omega, rfl⟩ | (refine ⟨by omega, ?_⟩; simp; done) | (simp; done)) ⟨rfl, trivial⟩ trivial trivial ?_)
  rintro i σ hP hN; dsimp only [setL, putL] at hP ⊢
  obtain ⟨hi, a0, a1, a2, a3⟩ := hP
  by_cases hi4 : i < 4
  · obtain rfl | rfl | rfl | rfl : i = 0 ∨ i = 1 ∨ i = 2 ∨ i = 3 := by omega
    · repeat' first | ((with_reducible apply WR.mv); exact rfl; exact rfl) | ((with_reducible apply WR.nil)) | (with_reducible refine andThen_n ?_) | (with_reducible refine andThen_r ?_) | (with_reducible refine inB_n ?_) | (with_reducible refine inB_r ?_) | (with_reducible refine W.seq ?_) | (with_reducible refine W.region ?_) | (with_reducible refine W.skip ?_) | (with_reducible refine W.ret ?_) | (with_reducible refine W.block ?_) | ((with_reducible apply W.condT); exact rfl) | ((with_reducible apply W.condF); exact rfl) | ((with_reducible apply Done.f); (intro hh hh2; exact (nomatch hh2)); (focus ((repeat' first | exact all_nil | apply all_cons | exact res_tmp rfl); done)); (focus ((repeat' first | exact all_nil | apply all_cons | exact retOf_s rfl); done)); exact rfl; (focus ((repeat' first | exact outs_nil | apply outs_d); done))) | (intro hb; try (exfalso; omega)) | ((with_reducible apply WR.ist); exact rfl; exact rfl; exact rfl; (first | (simp only [List.length_cons, List.length_nil]; omega))) | ((with_reducible apply WR.lss); exact rfl; exact rfl; exact rfl) | ((with_reducible apply WR.eql); exact rfl; exact rfl; exact rfl) | ((with_reducible apply WR.ad); exact rfl; exact rfl; exact rfl; (first | exact i64_in _ (by omega)))
      · obtain rfl : c = 46 := u8_eq (n := 46) (by decide) hb
        rw [hk]; rfl
      · have e : c ≠ 46 := fun e => hb (by rw [e]; rfl)
        (refine W.nxt (1) (by first | omega | (dsimp only; omega)) ?_ ⟨rfl, trivial⟩ trivial ⟨rfl, trivial⟩ trivial trivial); (try dsimp only)
        exact ⟨by omega, fun _ => e, fun h => by omega, fun h => by omega, fun h => by omega⟩
    · repeat' first | ((with_reducible apply WR.mv); exact rfl; exact rfl) | ((with_reducible apply WR.nil)) | (with_reducible refine andThen_n ?_) | (with_reducible refine andThen_r ?_) | (with_reducible refine inB_n ?_) | (with_reducible refine inB_r ?_) | (with_reducible refine W.seq ?_) | (with_reducible refine W.region ?_) | (with_reducible refine W.skip ?_) | (with_reducible refine W.ret ?_) | (with_reducible refine W.block ?_) | ((with_reducible apply W.condT); exact rfl) | ((with_reducible apply W.condF); exact rfl) | ((with_reducible apply Done.f); (intro hh hh2; exact (nomatch hh2)); (focus ((repeat' first | exact all_nil | apply all_cons | exact res_tmp rfl); done)); (focus ((repeat' first | exact all_nil | apply all_cons | exact retOf_s rfl); done)); exact rfl; (focus ((repeat' first | exact outs_nil | apply outs_d); done))) | (intro hb; try (exfalso; omega)) | ((with_reducible apply WR.ist); exact rfl; exact rfl; exact rfl; (first | (simp only [List.length_cons, List.length_nil]; omega))) | ((with_reducible apply WR.lss); exact rfl; exact rfl; exact rfl) | ((with_reducible apply WR.eql); exact rfl; exact rfl; exact rfl) | ((with_reducible apply WR.ad); exact rfl; exact rfl; exact rfl; (first | exact i64_in _ (by omega)))
      · obtain rfl : c = 35 := u8_eq (n := 35) (by decide) hb
        rw [hk]; rfl
      · have e : c ≠ 35 := fun e => hb (by rw [e]; rfl)
        (refine W.nxt (2) (by first | omega | (dsimp only; omega)) ?_ ⟨rfl, trivial⟩ trivial ⟨rfl, trivial⟩ trivial trivial); (try dsimp only)
        exact ⟨by omega, fun _ => a0 (by omega), fun _ => e, fun h => by omega, fun h => by omega⟩
    · repeat' first | ((with_reducible apply WR.mv); exact rfl; exact rfl) | ((with_reducible apply WR.nil)) | (with_reducible refine andThen_n ?_) | (with_reducible refine andThen_r ?_) | (with_reducible refine inB_n ?_) | (with_reducible refine inB_r ?_) | (with_reducible refine W.seq ?_) | (with_reducible refine W.region ?_) | (with_reducible refine W.skip ?_) | (with_reducible refine W.ret ?_) | (with_reducible refine W.block ?_) | ((with_reducible apply W.condT); exact rfl) | ((with_reducible apply W.condF); exact rfl) | ((with_reducible apply Done.f); (intro hh hh2; exact (nomatch hh2)); (focus ((repeat' first | exact all_nil | apply all_cons | exact res_tmp rfl); done)); (focus ((repeat' first | exact all_nil | apply all_cons | exact retOf_s rfl); done)); exact rfl; (focus ((repeat' first | exact outs_nil | apply outs_d); done))) | (intro hb; try (exfalso; omega)) | ((with_reducible apply WR.ist); exact rfl; exact rfl; exact rfl; (first | (simp only [List.length_cons, List.length_nil]; omega))) | ((with_reducible apply WR.lss); exact rfl; exact rfl; exact rfl) | ((with_reducible apply WR.eql); exact rfl; exact rfl; exact rfl) | ((with_reducible apply WR.ad); exact rfl; exact rfl; exact rfl; (first | exact i64_in _ (by omega)))
      · obtain rfl : c = 84 := u8_eq (n := 84) (by decide) hb
        rw [hk]; rfl
      · have e : c ≠ 84 := fun e => hb (by rw [e]; rfl)
        (refine W.nxt (3) (by first | omega | (dsimp only; omega)) ?_ ⟨rfl, trivial⟩ trivial ⟨rfl, trivial⟩ trivial trivial); (try dsimp only)
        exact ⟨by omega, fun _ => a0 (by omega), fun _ => a1 (by omega), fun _ => e, fun h => by omega⟩
    · repeat' first | ((with_reducible apply WR.mv); exact rfl; exact rfl) | ((with_reducible apply WR.nil)) | (with_reducible refine andThen_n ?_) | (with_reducible refine andThen_r ?_) | (with_reducible refine inB_n ?_) | (with_reducible refine inB_r ?_) | (with_reducible refine W.seq ?_) | (with_reducible refine W.region ?_) | (with_reducible refine W.skip ?_) | (with_reducible refine W.ret ?_) | (with_reducible refine W.block ?_) | ((with_reducible apply W.condT); exact rfl) | ((with_reducible apply W.condF); exact rfl) | ((with_reducible apply Done.f); (intro hh hh2; exact (nomatch hh2)); (focus ((repeat' first | exact all_nil | apply all_cons | exact res_tmp rfl); done)); (focus ((repeat' first | exact all_nil | apply all_cons | exact retOf_s rfl); done)); exact rfl; (focus ((repeat' first | exact outs_nil | apply outs_d); done))) | (intro hb; try (exfalso; omega)) | ((with_reducible apply WR.ist); exact rfl; exact rfl; exact rfl; (first | (simp only [List.length_cons, List.length_nil]; omega))) | ((with_reducible apply WR.lss); exact rfl; exact rfl; exact rfl) | ((with_reducible apply WR.eql); exact rfl; exact rfl; exact rfl) | ((with_reducible apply WR.ad); exact rfl; exact rfl; exact rfl; (first | exact i64_in _ (by omega)))
      · obtain rfl : c = 61 := u8_eq (n := 61) (by decide) hb
        rw [hk]; rfl
      · have e : c ≠ 61 := fun e => hb (by rw [e]; rfl)
        (refine W.nxt (4) (by first | omega | (dsimp only; omega)) ?_ ⟨rfl, trivial⟩ trivial ⟨rfl, trivial⟩ trivial trivial); (try dsimp only)
        exact ⟨by omega, fun _ => a0 (by omega), fun _ => a1 (by omega), fun _ => a2 (by omega), fun _ => e⟩
  · repeat' first | ((with_reducible apply WR.mv); exact rfl; exact rfl) | ((with_reducible apply WR.nil)) | (with_reducible refine andThen_n ?_) | (with_reducible refine andThen_x ?_) | (with_reducible refine inB_x ?_) | (with_reducible refine W.seq ?_) | (with_reducible refine W.region ?_) | (with_reducible refine W.ret ?_) | (with_reducible refine W.exit ?_) | ((with_reducible apply W.condF); exact rfl) | ((with_reducible apply Done.f); (intro hh hh2; exact (nomatch hh2)); (focus ((repeat' first | exact all_nil | apply all_cons | exact res_tmp rfl); done)); (focus ((repeat' first | exact all_nil | apply all_cons | exact retOf_s rfl); done)); exact rfl; (focus ((repeat' first | exact outs_nil | apply outs_d); done))) | (intro hb; try (exfalso; omega)) | ((with_reducible apply WR.lss); exact rfl; exact rfl; exact rfl)
    rw [hk, if_neg (a0 (by omega)), if_neg (a1 (by omega)), if_neg (a2 (by omega)), if_neg (a3 (by omega))]; rfl
/-! Rows of letters. -/
/-- A function of a cell that gives a byte. -/
def LetC (x : D) (L : Cel → UInt8) (dom : Cel → Prop) : Prop :=
  ∃ f fn pre post, x = .clo f pre post ∧ G f = some fn ∧ fn.muts = [] ∧ ∀ c, dom c → Gives G f (pre.map .d ++ [ac c.1 c.2] ++ post.map .d) (ri .u8 (((L c).toNat : Nat) : Int))
section
variable {dsts : Nat → Option Nat} {ops : List Oper} {Q : St → Prop} {σ : St} {g : Option (Nat × Bool)} {l1 l2 l3 l4 : List Nat}
theorem let_call {x : D} {L : Cel → UInt8} {dom : Cel → Prop} (hx : LetC x L dom) {a b : Opd} {u v : Int} {e : Nat} {σ : St} (ha : ev σ.env a = .a (.d x)) (hb : ev σ.env b = .a (.d (.agg [.int .i8 u, .int .i8 v]))) (hd : dom (u, v)) :
    ∃ f fn vs as, callee σ (.callv a [b]) = some (f, vs) ∧ G f = some fn ∧ mutIds fn.muts vs = [] ∧ args σ [] fn.muts vs = some as ∧ Gives G f as (ri .u8 (((L (u, v)).toNat : Nat) : Int)) ∧ backs σ fn.muts vs [] = some [] := by
  obtain ⟨f, fn, pre, post, rfl, h1, h2, h3⟩ := hx
  refine ⟨f, fn, _, _, by simp [callee, ha, hb]; rfl, h1, ?_, ?_, h3 _ hd, ?_⟩
  · rw [h2]
    cases h : (pre.map (fun x => V.a (.d x)) ++ _ : List V) <;> rfl
  · rw [h2]
    have h0 : args σ [] [] (post.map fun x => V.a (.d x)) = some (post.map .d) := by
      have := args_pre σ post [] [] args_nil
      simpa using this
    have h4 := args_d (σ := σ) (ids := []) (v := .a (.d (.agg [.int .i8 u, .int .i8 v]))) (toD_d rfl) h0
    have h5 := args_pre σ pre _ _ h4
    simpa using h5
  · rw [h2]; exact backs_no
theorem WR.vl {x : D} {L : Cel → UInt8} {dom : Cel → Prop} (hx : LetC x L dom) {a b : Opd} {u v : Int} {e : Nat} (hw : wanted dsts σ.env g = some true) (ha : ev σ.env a = .a (.d x)) (hb : ev σ.env b = .a (.d (.agg [.int .i8 u, .int .i8 v]))) (hd : dom (u, v))
    (k1 : WR G dsts ops Q (set (some e) (.a (.d (.s (.int .u8 (((L (u, v)).toNat : Nat) : Int))))) σ)) : WR G dsts (⟨some e, .callv a [b], g, l1, l2, l3, l4⟩ :: ops) Q σ := by
  obtain ⟨f, fn, vs, as, h1, h2, h3, h4, h5, h6⟩ := let_call (e := e) hx ha hb hd
  refine WR.call (d := e) (v := .a (.d (.s (.int .u8 (((L (u, v)).toNat : Nat) : Int))))) (ps := []) (ns := []) hw rfl h1 h2 (by rw [h3]; rfl) (by rw [h3]; exact h4) h5 h6 rfl rfl rfl ?_
  simp only [List.append_nil, List.map_nil, insertAll, kill_nil]
  exact k1
end
def bI (l : List UInt8) : List Int := l.map fun b => ((b.toNat : Nat) : Int)
theorem bI_back (l : List UInt8) : (bI l).map (fun n => UInt8.ofNat n.toNat) = l := by
  unfold bI
  rw [List.map_map]
  conv => rhs; rw [← List.map_id l]
  apply List.map_congr_left
  intro b _
  simp
theorem bI_app (a b : List UInt8) : bI (a ++ b) = bI a ++ bI b := by simp [bI]
theorem textC_len (w : Int) (L : Cel → UInt8) (A : List Cel) : (textC w L A).length ≤ 2 * A.length := by
  unfold textC
  induction A with
  | nil => simp
  | cons c A ih =>
    rw [List.flatMap_cons, List.length_append, List.length_cons, List.length_cons]
    by_cases e : c.1 = w - 1
    · rw [if_pos e]; simp only [List.length_cons, List.length_nil]; omega
    · rw [if_neg e]; simp only [List.length_nil]; omega
theorem rows_gives {w h : Int} {g : Nat → Int} {cs : List S} (l : IsLawn w h g cs) (hs : 0 ≤ w ∧ w ≤ 10 ∧ 0 ≤ h ∧ h ≤ 10) {x : D} {L : Cel → UInt8} {dom : Cel → Prop} (hx : LetC x L dom) (hd : ∀ c, Has w h c.1 c.2 → dom c) :
    Gives G 244 [aa cs, .d x] ⟨[.s (.str (textC w L (allC w h)))], []⟩ := by
  have hal := allC_len (w := w) (h := h) (by omega)
  have hmem := fun c => allC_mem (w := w) (h := h) (c := c)
  have hl := l.w
  obtain ⟨f, fn, pre, post, rfl, h1, h2, h3⟩ := id hx
  refine Gives.by rfl rfl (W.seq ?_)
  repeat' first | ((with_reducible apply WR.c_o (f := 33) (fn := Code.f33)); exact rfl; exact rfl; exact rfl; (first | exact rfl); (focus ((repeat' first | exact args_nil | apply args_d | exact toD_d rfl | exact rfl); done)); exact all_gives (by assumption) (by omega); (first | exact rfl)) | ((with_reducible apply WR.mv); exact rfl; exact rfl) | ((with_reducible apply WR.ld); exact rfl; exact rfl; exact rfl; (first | exact loadC_all (IsLawn.len (by assumption)))) | ((with_reducible apply WR.bs); exact rfl; exact rfl; (first | exact rfl)) | ((with_reducible apply WR.nil)) | (with_reducible refine andThen_n ?_) | (with_reducible refine W.seq ?_) | (with_reducible refine W.region ?_) | (with_reducible refine W.block ?_) | ((with_reducible apply WR.bx); exact rfl; exact rfl; exact (by first | exact IsLawn.len (by assumption) | exact rfl); (first | exact rfl)) | ((with_reducible apply WR.le); exact rfl; exact rfl)
  generalize allC w h = A at hal hmem
  (refine W.loopM [1, 2, 10, 11] [2, 10] [7, 19, 20, 21, 29, 30, 1019, 2019, 3019, 4019] (fun zz : (Nat) × (List Int) => match zz with | (i, T) => (A.length - i : Nat)) (fun zz : (Nat) × (List Int) => match zz with | (i, T) => (i ≤ A.length ∧ T = bI (textC w L (A.take i)) : Prop)) (fun zz : (Nat) × (List Int) => match zz with | (i, T) => [(5, .a (.sl 8 0 T.length 1)), (12, .a (.d (.s (.int .i64 (i : Nat)))))]) (fun zz : (Nat) × (List Int) => match zz with | (i, T) => [(8, .flat false (encI .u8 T))]) (0, []) (⟨by omega, by simp [textC, bI]⟩) ⟨rfl, rfl, trivial⟩ ⟨rfl, trivial⟩ ⟨(by (repeat' first | exact rfl | assumption | (with_reducible apply noPar_set) | ((with_reducible apply noPar_puto); exact rfl) | (with_reducible apply noPar_put) | (with_reducible apply noPar_putv) | (with_reducible apply noPar_kill) | ((with_reducible apply noPar_mix); exact rfl) | ((with_reducible apply noPar_mixT); exact rfl)); done), (by (repeat' first | exact rfl | assumption | (with_reducible apply noPar_set) | ((with_reducible apply noPar_puto); exact rfl) | (with_reducible apply noPar_put) | (with_reducible apply noPar_putv) | (with_reducible apply noPar_kill) | ((with_reducible apply noPar_mix); exact rfl) | ((with_reducible apply noPar_mixT); exact rfl)); done), (by (repeat' first | exact rfl | assumption | (with_reducible apply noPar_set) | ((with_reducible apply noPar_puto); exact rfl) | (with_reducible apply noPar_put) | (with_reducible apply noPar_putv) | (with_reducible apply noPar_kill) | ((with_reducible apply noPar_mix); exact rfl) | ((with_reducible apply noPar_mixT); exact rfl)); done), (by (repeat' first | exact rfl | assumption | (with_reducible apply noPar_set) | ((with_reducible apply noPar_puto); exact rfl) | (with_reducible apply noPar_put) | (with_reducible apply noPar_putv) | (with_reducible apply noPar_kill) | ((with_reducible apply noPar_mix); exact rfl) | ((with_reducible apply noPar_mixT); exact rfl)); done), (by (repeat' first | exact rfl | assumption | (with_reducible apply noPar_set) | ((with_reducible apply noPar_puto); exact rfl) | (with_reducible apply noPar_put) | (with_reducible apply noPar_putv) | (with_reducible apply noPar_kill) | ((with_reducible apply noPar_mix); exact rfl) | ((with_reducible apply noPar_mixT); exact rfl)); done), (by (repeat' first | exact rfl | assumption | (with_reducible apply noPar_set) | ((with_reducible apply noPar_puto); exact rfl) | (with_reducible apply noPar_put) | (with_reducible apply noPar_putv) | (with_reducible apply noPar_kill) | ((with_reducible apply noPar_mix); exact rfl) | ((with_reducible apply noPar_mixT); exact rfl)); done), (by (repeat' first | exact rfl | assumption | (with_reducible apply noPar_set) | ((with_reducible apply noPar_puto); exact rfl) | (with_reducible apply noPar_put) | (with_reducible apply noPar_putv) | (with_reducible apply noPar_kill) | ((with_reducible apply noPar_mix); exact rfl) | ((with_reducible apply noPar_mixT); exact rfl)); done), (by (repeat' first | exact rfl | assumption | (with_reducible apply noPar_set) | ((with_reducible apply noPar_puto); exact rfl) | (with_reducible apply noPar_put) | (with_reducible apply noPar_putv) | (with_reducible apply noPar_kill) | ((with_reducible apply noPar_mix); exact rfl) | ((with_reducible apply noPar_mixT); exact rfl)); done), (by (repeat' first | exact rfl | assumption | (with_reducible apply noPar_set) | ((with_reducible apply noPar_puto); exact rfl) | (with_reducible apply noPar_put) | (with_reducible apply noPar_putv) | (with_reducible apply noPar_kill) | ((with_reducible apply noPar_mix); exact rfl) | ((with_reducible apply noPar_mixT); exact rfl)); done), (by (repeat' first | exact rfl | assumption | (with_reducible apply noPar_set) | ((with_reducible apply noPar_puto); exact rfl) | (with_reducible apply noPar_put) | (with_reducible apply noPar_putv) | (with_reducible apply noPar_kill) | ((with_reducible apply noPar_mix); exact rfl) | ((with_reducible apply noPar_mixT); exact rfl)); done), trivial⟩ ?_)
  rintro ⟨i, T⟩ σ hP hN; dsimp only [setL, putL] at hP ⊢; obtain ⟨n7, hN⟩ := hN; obtain ⟨n19, hN⟩ := hN; obtain ⟨n20, hN⟩ := hN; obtain ⟨n21, hN⟩ := hN; obtain ⟨n29, hN⟩ := hN; obtain ⟨n30, hN⟩ := hN; obtain ⟨n1019, hN⟩ := hN; obtain ⟨n2019, hN⟩ := hN; obtain ⟨n3019, hN⟩ := hN; obtain ⟨n4019, hN⟩ := hN
  obtain ⟨hi, hT⟩ := hP
  by_cases hil : i < A.length
  · have hm := hmem _ (gC_mem hil)
    have hTl : T.length ≤ 200 := by
      rw [hT, bI, List.length_map]
      have := textC_len w L (A.take i)
      rw [List.length_take] at this; omega
    have hnx : textC w L (A.take (i + 1)) = textC w L (A.take i) ++ L (gC A i) :: if (gC A i).1 = w - 1 then [10] else [] := by
      rw [List.take_add_one, gC_get hil]; simp [textC]
    repeat' first | ((with_reducible apply WR.vl hx); exact rfl; exact rfl; exact rfl; exact hd _ hm) | ((with_reducible apply WR.mv); exact rfl; exact rfl) | ((with_reducible apply WR.ld); exact rfl; exact rfl; exact rfl; (first | exact ld2 | exact lawn_w (by assumption) | exact ldC (by first | omega))) | ((with_reducible apply WR.lx); exact rfl; exact rfl) | ((with_reducible apply WR.bsI1); exact rfl; exact rfl; (first | assumption | (focus ((repeat' first | assumption | (with_reducible apply noPar_set) | ((with_reducible apply noPar_puto); exact rfl) | (with_reducible apply noPar_kill)); done)))) | ((with_reducible apply WR.nil)) | (with_reducible refine andThen_n ?_) | (with_reducible refine inB_n ?_) | (with_reducible refine W.seq ?_) | (with_reducible refine W.region ?_) | (with_reducible refine W.skip ?_) | (with_reducible refine W.block ?_) | ((with_reducible apply W.condT); exact rfl) | ((with_reducible apply W.condF); exact rfl) | (intro hb; try (exfalso; omega)) | ((with_reducible apply WR.fa); exact rfl; exact rfl) | ((with_reducible apply WR.apI); exact rfl; exact rfl; exact rfl; exact rfl; (first | omega | (simp only [List.length_append, List.length_cons, List.length_nil]; omega))) | ((with_reducible apply WR.lss); exact rfl; exact rfl; exact rfl) | ((with_reducible apply WR.eql); exact rfl; exact rfl; exact rfl) | ((with_reducible apply WR.ad); exact rfl; exact rfl; exact rfl; (first | exact i64_in _ (by omega) | assumption | exact i8_in _ (by omega))) | ((with_reducible apply WR.sb); exact rfl; exact rfl; exact rfl; (first | exact i64_in _ (by omega) | assumption | exact i8_in _ (by omega))) | ((with_reducible apply WR.isn); exact rfl; exact rfl; exact rfl; omega) | ((with_reducible apply WR.al); exact rfl; (first | assumption | (focus ((repeat' first | assumption | (with_reducible apply noPar_set) | ((with_reducible apply noPar_puto); exact rfl) | (with_reducible apply noPar_kill)); done)))) | ((with_reducible apply WR.st); exact rfl; exact rfl; exact rfl; exact st2)
    · (refine W.nxt ((i + 1, (T ++ [(((L (gC A i)).toNat : Nat) : Int)]) ++ [10])) (by first | omega | (dsimp only; omega)) ?_ ⟨rfl, rfl, trivial⟩ ⟨rfl, trivial⟩ ⟨rfl, rfl, rfl, rfl, trivial⟩ ⟨rfl, rfl, trivial⟩ ⟨(by (repeat' first | exact rfl | assumption | (with_reducible apply noPar_set) | ((with_reducible apply noPar_puto); exact rfl) | (with_reducible apply noPar_put) | (with_reducible apply noPar_putv) | (with_reducible apply noPar_kill) | ((with_reducible apply noPar_mix); exact rfl) | ((with_reducible apply noPar_mixT); exact rfl)); done), (by (repeat' first | exact rfl | assumption | (with_reducible apply noPar_set) | ((with_reducible apply noPar_puto); exact rfl) | (with_reducible apply noPar_put) | (with_reducible apply noPar_putv) | (with_reducible apply noPar_kill) | ((with_reducible apply noPar_mix); exact rfl) | ((with_reducible apply noPar_mixT); exact rfl)); done), (by (repeat' first | exact rfl | assumption | (with_reducible apply noPar_set) | ((with_reducible apply noPar_puto); exact rfl) | (with_reducible apply noPar_put) | (with_reducible apply noPar_putv) | (with_reducible apply noPar_kill) | ((with_reducible apply noPar_mix); exact rfl) | ((with_reducible apply noPar_mixT); exact rfl)); done), (by (repeat' first | exact rfl | assumption | (with_reducible apply noPar_set) | ((with_reducible apply noPar_puto); exact rfl) | (with_reducible apply noPar_put) | (with_reducible apply noPar_putv) | (with_reducible apply noPar_kill) | ((with_reducible apply noPar_mix); exact rfl) | ((with_reducible apply noPar_mixT); exact rfl)); done), (by (repeat' first | exact rfl | assumption | (with_reducible apply noPar_set) | ((with_reducible apply noPar_puto); exact rfl) | (with_reducible apply noPar_put) | (with_reducible apply noPar_putv) | (with_reducible apply noPar_kill) | ((with_reducible apply noPar_mix); exact rfl) | ((with_reducible apply noPar_mixT); exact rfl)); done), (by (repeat' first | exact rfl | assumption | (with_reducible apply noPar_set) | ((with_reducible apply noPar_puto); exact rfl) | (with_reducible apply noPar_put) | (with_reducible apply noPar_putv) | (with_reducible apply noPar_kill) | ((with_reducible apply noPar_mix); exact rfl) | ((with_reducible apply noPar_mixT); exact rfl)); done), (by (repeat' first | exact rfl | assumption | (with_reducible apply noPar_set) | ((with_reducible apply noPar_puto); exact rfl) | (with_reducible apply noPar_put) | (with_reducible apply noPar_putv) | (with_reducible apply noPar_kill) | ((with_reducible apply noPar_mix); exact rfl) | ((with_reducible apply noPar_mixT); exact rfl)); done), (by (repeat' first | exact rfl | assumption | (with_reducible apply noPar_set) | ((with_reducible apply noPar_puto); exact rfl) | (with_reducible apply noPar_put) | (with_reducible apply noPar_putv) | (with_reducible apply noPar_kill) | ((with_reducible apply noPar_mix); exact rfl) | ((with_reducible apply noPar_mixT); exact rfl)); done), (by (repeat' first | exact rfl | assumption | (with_reducible apply noPar_set) | ((with_reducible apply noPar_puto); exact rfl) | (with_reducible apply noPar_put) | (with_reducible apply noPar_putv) | (with_reducible apply noPar_kill) | ((with_reducible apply noPar_mix); exact rfl) | ((with_reducible apply noPar_mixT); exact rfl)); done), (by (repeat' first | exact rfl | assumption | (with_reducible apply noPar_set) | ((with_reducible apply noPar_puto); exact rfl) | (with_reducible apply noPar_put) | (with_reducible apply noPar_putv) | (with_reducible apply noPar_kill) | ((with_reducible apply noPar_mix); exact rfl) | ((with_reducible apply noPar_mixT); exact rfl)); done), trivial⟩); (try dsimp only)
      refine ⟨by omega, ?_⟩
      rw [hnx, if_pos hb, hT]; simp [bI]
    · (refine W.nxt ((i + 1, T ++ [(((L (gC A i)).toNat : Nat) : Int)])) (by first | omega | (dsimp only; omega)) ?_ ⟨rfl, rfl, trivial⟩ ⟨rfl, trivial⟩ ⟨rfl, rfl, rfl, rfl, trivial⟩ ⟨rfl, rfl, trivial⟩ ⟨(by (repeat' first | exact rfl | assumption | (with_reducible apply noPar_set) | ((with_reducible apply noPar_puto); exact rfl) | (with_reducible apply noPar_put) | (with_reducible apply noPar_putv) | (with_reducible apply noPar_kill) | ((with_reducible apply noPar_mix); exact rfl) | ((with_reducible apply noPar_mixT); exact rfl)); done), (by (repeat' first | exact rfl | assumption | (with_reducible apply noPar_set) | ((with_reducible apply noPar_puto); exact rfl) | (with_reducible apply noPar_put) | (with_reducible apply noPar_putv) | (with_reducible apply noPar_kill) | ((with_reducible apply noPar_mix); exact rfl) | ((with_reducible apply noPar_mixT); exact rfl)); done), (by (repeat' first | exact rfl | assumption | (with_reducible apply noPar_set) | ((with_reducible apply noPar_puto); exact rfl) | (with_reducible apply noPar_put) | (with_reducible apply noPar_putv) | (with_reducible apply noPar_kill) | ((with_reducible apply noPar_mix); exact rfl) | ((with_reducible apply noPar_mixT); exact rfl)); done), (by (repeat' first | exact rfl | assumption | (with_reducible apply noPar_set) | ((with_reducible apply noPar_puto); exact rfl) | (with_reducible apply noPar_put) | (with_reducible apply noPar_putv) | (with_reducible apply noPar_kill) | ((with_reducible apply noPar_mix); exact rfl) | ((with_reducible apply noPar_mixT); exact rfl)); done), (by (repeat' first | exact rfl | assumption | (with_reducible apply noPar_set) | ((with_reducible apply noPar_puto); exact rfl) | (with_reducible apply noPar_put) | (with_reducible apply noPar_putv) | (with_reducible apply noPar_kill) | ((with_reducible apply noPar_mix); exact rfl) | ((with_reducible apply noPar_mixT); exact rfl)); done), (by (repeat' first | exact rfl | assumption | (with_reducible apply noPar_set) | ((with_reducible apply noPar_puto); exact rfl) | (with_reducible apply noPar_put) | (with_reducible apply noPar_putv) | (with_reducible apply noPar_kill) | ((with_reducible apply noPar_mix); exact rfl) | ((with_reducible apply noPar_mixT); exact rfl)); done), (by (repeat' first | exact rfl | assumption | (with_reducible apply noPar_set) | ((with_reducible apply noPar_puto); exact rfl) | (with_reducible apply noPar_put) | (with_reducible apply noPar_putv) | (with_reducible apply noPar_kill) | ((with_reducible apply noPar_mix); exact rfl) | ((with_reducible apply noPar_mixT); exact rfl)); done), (by (repeat' first | exact rfl | assumption | (with_reducible apply noPar_set) | ((with_reducible apply noPar_puto); exact rfl) | (with_reducible apply noPar_put) | (with_reducible apply noPar_putv) | (with_reducible apply noPar_kill) | ((with_reducible apply noPar_mix); exact rfl) | ((with_reducible apply noPar_mixT); exact rfl)); done), (by (repeat' first | exact rfl | assumption | (with_reducible apply noPar_set) | ((with_reducible apply noPar_puto); exact rfl) | (with_reducible apply noPar_put) | (with_reducible apply noPar_putv) | (with_reducible apply noPar_kill) | ((with_reducible apply noPar_mix); exact rfl) | ((with_reducible apply noPar_mixT); exact rfl)); done), (by (repeat' first | exact rfl | assumption | (with_reducible apply noPar_set) | ((with_reducible apply noPar_puto); exact rfl) | (with_reducible apply noPar_put) | (with_reducible apply noPar_putv) | (with_reducible apply noPar_kill) | ((with_reducible apply noPar_mix); exact rfl) | ((with_reducible apply noPar_mixT); exact rfl)); done), trivial⟩); (try dsimp only)
      refine ⟨by omega, ?_⟩
      rw [hnx, if_neg hb, hT]; simp [bI]
  · have hA : A.take i = A := List.take_of_length_le (by omega)
    rw [hA] at hT; subst hT
    repeat' first | ((with_reducible apply WR.mv); exact rfl; exact rfl) | ((with_reducible apply WR.nil)) | (with_reducible refine andThen_n ?_) | (with_reducible refine andThen_x ?_) | (with_reducible refine inB_x ?_) | (with_reducible refine W.seq ?_) | (with_reducible refine W.region ?_) | (with_reducible refine W.ret ?_) | (with_reducible refine W.exit ?_) | ((with_reducible apply W.condF); exact rfl) | ((with_reducible apply Done.f); (intro hh hh2; exact (nomatch hh2)); (focus ((repeat' first | exact all_nil | apply all_cons | exact res_tmp rfl); done)); (focus ((repeat' first | exact all_nil | apply all_cons | exact retOf_s rfl); done)); exact rfl; (focus ((repeat' first | exact outs_nil | apply outs_d); done))) | (intro hb; try (exfalso; omega)) | ((with_reducible apply WR.ob); exact rfl; exact rfl; exact rfl) | ((with_reducible apply WR.lss); exact rfl; exact rfl; exact rfl)
    rw [bI_back]; rfl
def letK (k : Int) : UInt8 := ([46, 35, 84, 61] : List UInt8).getD k.toNat 0
theorem lawnText1_gives {w h : Int} {g : Nat → Int} {cs : List S} (l : IsLawn w h g cs) (hg : ∀ k, k < 100 → 0 ≤ g k ∧ g k ≤ 3) (u v : Int) (hb : 0 ≤ u ∧ u < 10 ∧ 0 ≤ v ∧ v < 10) :
    Gives G 245 [ac u v, .d (.ref cs)] (ri .u8 (((letK (g (10 * v.toNat + u.toNat))).toNat : Nat) : Int)) := by
  have hk := hg (10 * v.toNat + u.toNat) (by omega)
  refine Gives.by rfl rfl (W.seq ?_)
  repeat' first | ((with_reducible apply WR.c_s (f := 100) (fn := Code.f100)); exact rfl; exact rfl; exact rfl; (first | exact rfl); (focus ((repeat' first | exact args_nil | apply args_d | exact toD_d rfl | exact all_nil | apply all_cons | exact rfl); done)); exact kind_gives (by assumption) _ _ (by omega)) | ((with_reducible apply WR.nil)) | (with_reducible refine andThen_n ?_) | (with_reducible refine W.seq ?_) | (with_reducible refine W.region ?_) | (with_reducible refine W.ret ?_) | ((with_reducible apply Done.f); (intro hh hh2; exact (nomatch hh2)); (focus ((repeat' first | exact all_nil | apply all_cons | exact res_tmp rfl | exact rfl); done)); (focus ((repeat' first | exact all_nil | apply all_cons | exact retOf_s rfl | exact rfl); done)); exact rfl; (focus ((repeat' first | exact outs_nil | apply outs_d | exact rfl); done))) | ((with_reducible apply WR.mv); exact rfl; exact rfl) | ((with_reducible apply WR.ld); exact rfl; exact rfl; exact rfl; (first | exact ld2 | exact loadC_all (IsLawn.len (by assumption)))) | ((with_reducible apply WR.ldr); exact rfl; exact rfl; (first | exact ld2 | exact loadC_all (IsLawn.len (by assumption)))) | ((with_reducible apply WR.ist); exact rfl; exact rfl; exact rfl; (first | (simp only [List.length_cons, List.length_nil]; omega))) | ((with_reducible apply WR.bx); exact rfl; exact rfl; exact (by first | exact rfl); (first | exact rfl))
  rfl
/-- A lawn's letters. -/
def letG (g : Nat → Int) (c : Cel) : UInt8 := letK (g (10 * c.2.toNat + c.1.toNat))
theorem let_lawn {w h : Int} {g : Nat → Int} {cs : List S} (l : IsLawn w h g cs) (hg : ∀ k, k < 100 → 0 ≤ g k ∧ g k ≤ 3) : LetC (.clo 245 [] [.ref cs]) (letG g) (fun c => 0 ≤ c.1 ∧ c.1 < 10 ∧ 0 ≤ c.2 ∧ c.2 < 10) :=
  ⟨245, Code.f245, _, _, rfl, rfl, rfl, fun c hc => lawnText1_gives l hg c.1 c.2 hc⟩
def lawnT (w h : Int) (g : Nat → Int) : List UInt8 := if LawnOk w h g then textC w (letG g) (allC w h) else []
theorem ok_kinds {w h : Int} {g : Nat → Int} {cs : List S} (l : IsLawn w h g cs) (hok : LawnOk w h g) : ∀ k, k < 100 → 0 ≤ g k ∧ g k ≤ 3 := fun k hk => by
  have h1 := l.cb k hk
  have h2 := hok.2.2 k hk
  unfold cellOk at h2
  omega
theorem lawnText_gives {w h : Int} {g : Nat → Int} {cs : List S} (l : IsLawn w h g cs) : Gives G 239 [aa cs] ⟨[.s (.str (lawnT w h g))], []⟩ := by
  refine Gives.by rfl rfl (W.seq ?_)
  by_cases hok : LawnOk w h g
  · have hg := ok_kinds l hok
    have hz := hok.1; have hz2 := hok.2.1
    have hR := rows_gives l (by omega) (let_lawn l hg) (fun c (hc : Has w h c.1 c.2) => by unfold Has at hc; omega)
    have he : lawnT w h g = textC w (letG g) (allC w h) := if_pos hok
    rw [he]
    repeat' first | ((with_reducible apply WR.c_s (f := 244) (fn := Code.f244)); exact rfl; exact rfl; exact rfl; (first | exact rfl); (focus ((repeat' first | exact args_nil | apply args_d | exact toD_d rfl | exact toD_ptr rfl rfl | (apply toD_clo; exact rfl) | exact all_nil | apply all_cons | exact rfl); done)); exact hR) | ((with_reducible apply WR.c_p (f := 30) (fn := Code.f30)); exact rfl; exact rfl; exact rfl; (first | exact rfl); (focus ((repeat' first | exact args_nil | apply args_d | exact toD_d rfl | exact toD_ptr rfl rfl | (apply toD_clo; exact rfl) | exact all_nil | apply all_cons | exact rfl); done)); exact validLawn_gives (by assumption)) | ((with_reducible apply WR.mv); exact rfl; exact rfl) | ((with_reducible apply WR.nil)) | (with_reducible refine andThen_n ?_) | (with_reducible refine andThen_r ?_) | (with_reducible refine W.seq ?_) | (with_reducible refine W.region ?_) | (with_reducible refine W.skip ?_) | (with_reducible refine W.ret ?_) | ((with_reducible apply W.condT); exact rfl) | ((with_reducible apply W.condF); exact rfl) | ((with_reducible apply Done.f); (intro hh hh2; exact (nomatch hh2)); (focus ((repeat' first | exact all_nil | apply all_cons | exact res_tmp rfl | exact rfl); done)); (focus ((repeat' first | exact all_nil | apply all_cons | exact retOf_s rfl | exact rfl); done)); exact rfl; (focus ((repeat' first | exact outs_nil | apply outs_d | exact rfl); done))) | (intro hb; try (exfalso; omega)) | ((with_reducible apply WR.ld); exact rfl; exact rfl; exact rfl; (first | exact loadC_all (IsLawn.len (by assumption)))) | ((with_reducible apply WR.bx); exact rfl; exact rfl; exact (by first | exact IsLawn.len (by assumption) | exact rfl); (first | exact rfl)) | ((with_reducible apply WR.mf); exact rfl; exact rfl) | ((with_reducible apply WR.un); exact rfl; exact rfl)
    all_goals first | rfl | exact absurd hok (by assumption)
  · have he : lawnT w h g = [] := if_neg hok
    rw [he]
    repeat' first | ((with_reducible apply WR.c_p (f := 30) (fn := Code.f30)); exact rfl; exact rfl; exact rfl; (first | exact rfl); (focus ((repeat' first | exact args_nil | apply args_d | exact toD_d rfl | exact all_nil | apply all_cons | exact rfl); done)); exact validLawn_gives (by assumption)) | ((with_reducible apply WR.mv); exact rfl; exact rfl) | ((with_reducible apply WR.nil)) | (with_reducible refine andThen_n ?_) | (with_reducible refine andThen_r ?_) | (with_reducible refine W.seq ?_) | (with_reducible refine W.region ?_) | (with_reducible refine W.skip ?_) | (with_reducible refine W.ret ?_) | ((with_reducible apply W.condT); exact rfl) | ((with_reducible apply W.condF); exact rfl) | ((with_reducible apply Done.f); (intro hh hh2; exact (nomatch hh2)); (focus ((repeat' first | exact all_nil | apply all_cons | exact res_tmp rfl | exact rfl); done)); (focus ((repeat' first | exact all_nil | apply all_cons | exact retOf_s rfl | exact rfl); done)); exact rfl; (focus ((repeat' first | exact outs_nil | apply outs_d | exact rfl); done))) | (intro hb; try (exfalso; omega)) | ((with_reducible apply WR.ld); exact rfl; exact rfl; exact rfl; (first | exact loadC_all (IsLawn.len (by assumption)))) | ((with_reducible apply WR.bx); exact rfl; exact rfl; exact (by first | exact IsLawn.len (by assumption) | exact rfl); (first | exact rfl)) | ((with_reducible apply WR.mf); exact rfl; exact rfl) | ((with_reducible apply WR.un); exact rfl; exact rfl)
    all_goals first | rfl | exact absurd (by assumption) hok
/-! The reader. -/
/-- What is read behind y lines and x letters. -/
def rd (ls : List (List UInt8)) (y x : Nat) (k : Nat) : Int :=
  if (k / 10 < y ∨ (k / 10 = y ∧ k % 10 < x)) ∧ k % 10 < (gS ls (k / 10)).length then kinL ((gS ls (k / 10)).getD (k % 10) 0) else 0
theorem rd_zero (ls : List (List UInt8)) : rd ls 0 0 = fun _ => 0 := by
  funext k; unfold rd; rw [if_neg (by omega)]
theorem rd_step {ls : List (List UInt8)} {y x : Nat} (hx : x < (gS ls y).length) (h10 : x < 10) : gset (rd ls y x) (10 * y + x) (kinL ((gS ls y).getD x 0)) = rd ls y (x + 1) := by
  funext k
  unfold gset
  by_cases e : k = 10 * y + x
  · have e1 : k / 10 = y := by omega
    have e2 : k % 10 = x := by omega
    rw [if_pos e]; unfold rd
    rw [e1, e2, if_pos ⟨by omega, hx⟩]
  · rw [if_neg e]
    unfold rd
    by_cases e1 : k / 10 = y
    · have : k % 10 < x + 1 ↔ k % 10 < x := by omega
      simp only [this]
    · simp only [e1, false_and, or_false]
theorem rd_row {ls : List (List UInt8)} {y x : Nat} (hx : (gS ls y).length ≤ x ∨ 10 ≤ x) : rd ls y x = rd ls (y + 1) 0 := by
  funext k
  unfold rd
  by_cases e1 : k / 10 = y
  · subst e1
    have : ((k / 10 < k / 10 ∨ k / 10 = k / 10 ∧ k % 10 < x) ∧ k % 10 < (gS ls (k / 10)).length) ↔ ((k / 10 < k / 10 + 1 ∨ k / 10 = k / 10 + 1 ∧ k % 10 < 0) ∧ k % 10 < (gS ls (k / 10)).length) := by
      have := Nat.mod_lt k (show 10 > 0 by decide)
      omega
    exact ite_congr (propext this) (fun _ => rfl) (fun _ => rfl)
  · have : (k / 10 < y ∨ k / 10 = y ∧ k % 10 < x) ↔ (k / 10 < y + 1 ∨ k / 10 = y + 1 ∧ k % 10 < 0) := by omega
    simp only [this]
def kinAll (ls : List (List UInt8)) (y n : Nat) : Prop := ∀ x, x < n → 0 ≤ kinL ((gS ls y).getD x 0)
def Good (ls : List (List UInt8)) : Prop := (1 ≤ ls.length - 1 ∧ ls.length - 1 ≤ 10) ∧ (1 ≤ (gS ls 0).length ∧ (gS ls 0).length ≤ 10) ∧ gS ls (ls.length - 1) = [] ∧ ∀ y, y < ls.length - 1 → (gS ls y).length = (gS ls 0).length ∧ kinAll ls y (gS ls 0).length
open Classical in
noncomputable def readR (ls : List (List UInt8)) : Res := if Good ls then ⟨[.agg (lawnS (gS ls 0).length ((ls.length : Int) - 1) (rd ls (ls.length - 1) 0)), .s (.int .i64 0)], []⟩ else ⟨[.agg (lawnS 0 0 fun _ => 0), .s (.int .i64 5)], []⟩
theorem kinL_b (c : UInt8) : -1 ≤ kinL c ∧ kinL c ≤ 3 := by
  rw [kinL_eq]
  repeat' split
  all_goals omega
theorem stL {p : Bool} {w h : Int} {q : Nat → Int} {x y n : Int} (hb : 0 ≤ x ∧ x < 10 ∧ 0 ≤ y ∧ y < 10) : storeO 1 (.a (.d (.s (.int .u8 n)))) (0 + 2 + y.toNat * 10 + x.toNat * 1) (.flat p (lawnS w h q)) = some (.flat p (lawnS w h (gset q (10 * y.toNat + x.toNat) n))) := by
  rw [storeAt (k := 2 + (10 * y.toNat + x.toNat)) (by simp [lawnS, grid_len]; omega) (by omega)]
  unfold lawnS
  rw [← grid_set (k := .u8) (q := q) n (show 10 * y.toNat + x.toNat < 100 by omega)]
  rw [List.set_append_right _ _ (by simp)]
  congr 5
  simp
theorem specRead_gives (s : List UInt8) (hs : s.length ≤ 1048576) : Gives G 226 [.d (.s (.str s))] (readR (pieces 10 s)) := by
  have hne := pieces_ne 10 s
  have hle := pieces_le 10 s
  generalize hls : pieces 10 s = ls at hne hle ⊢
  have hpos : 0 < ls.length := List.length_pos_iff.2 hne
  have hsp : Gives G 236 [.d (.s (.str s)), .d (.s (.int .u8 10))] ⟨[.own ls.length 1 (encS ls)], []⟩ := by
    rw [← hls]; exact l01Split_gives s 10 (by omega)
  have hh : 1 ≤ ls.length := hpos
  refine Gives.by rfl rfl (W.seq ?_)
  have bad : ¬ Good ls → (⟨[.agg (List.replicate 2 (S.int IntKind.i8 0) ++ List.replicate 100 (S.int IntKind.u8 0)), .s (S.int IntKind.i64 5)], []⟩ : Res) = readR ls := fun h => by rw [readR, if_neg h]; rfl
  repeat' first | ((with_reducible apply WR.c_o (f := 236) (fn := Code.f236)); exact rfl; exact rfl; exact rfl; (first | exact rfl); (focus ((repeat' first | exact args_nil | apply args_d | exact toD_d rfl | exact all_nil | apply all_cons | exact rfl); done)); exact hsp; (first | exact rfl)) | ((with_reducible apply WR.c_p (f := 58) (fn := Code.f58)); exact rfl; exact rfl; exact rfl; (first | exact rfl); (focus ((repeat' first | exact args_nil | apply args_d | exact toD_d rfl | exact all_nil | apply all_cons | exact rfl); done)); exact l01Side_gives _) | ((with_reducible apply WR.mv); exact rfl; exact rfl) | ((with_reducible apply WR.st); exact rfl; exact rfl; exact rfl; exact storeAll (by first | exact rfl) (by first | exact rfl)) | ((with_reducible apply WR.ld); exact rfl; exact rfl; exact rfl; (first | exact ldS (by first | omega))) | ((with_reducible apply WR.isn); exact rfl; exact rfl; exact rfl; omega) | ((with_reducible apply WR.is); exact rfl; exact rfl; exact rfl; omega) | ((with_reducible apply WR.bu); exact rfl; exact rfl) | ((with_reducible apply WR.off); exact rfl) | ((with_reducible apply WR.cv); exact rfl; exact rfl; (first | exact i64_in _ (by omega) | exact i8_in _ (by omega))) | ((with_reducible apply WR.le); exact rfl; exact rfl) | ((with_reducible apply WR.nil)) | (with_reducible refine andThen_n ?_) | (with_reducible refine andThen_r ?_) | (with_reducible refine W.seq ?_) | (with_reducible refine W.region ?_) | (with_reducible refine W.skip ?_) | (with_reducible refine W.ret ?_) | (with_reducible refine W.block ?_) | ((with_reducible apply W.condT); exact rfl) | ((with_reducible apply W.condF); exact rfl) | ((with_reducible apply Done.f); (intro hh hh2; exact (nomatch hh2)); (focus ((repeat' first | exact all_nil | apply all_cons | exact res_tmp rfl | exact res_cell rfl rfl (by first | exact rfl) | exact rfl); done)); (focus ((repeat' first | exact all_nil | apply all_cons | exact retOf_s rfl | exact retOf_a rfl | exact rfl); done)); exact rfl; (focus ((repeat' first | exact outs_nil | apply outs_d | exact rfl); done))) | (intro hb; try (exfalso; omega)) | ((with_reducible apply WR.snq); exact rfl; exact rfl; exact rfl) | ((with_reducible apply WR.un); exact rfl; exact rfl) | ((with_reducible apply WR.pk); exact rfl; exact rfl) | ((with_reducible apply WR.al); exact rfl; (first | exact rfl)) | ((with_reducible apply WR.sb); exact rfl; exact rfl; exact rfl; (first | exact i64_in _ (by omega) | exact i8_in _ (by omega)))
  all_goals try simp only [Int.toNat_zero] at hb ⊢
  · exact bad (fun g => hb (by have := g.2.2.1; rw [show ((ls.length : Int) - 1).toNat = ls.length - 1 by omega]; exact this))
  · (refine W.loopM [2, 4, 5, 6, 7] [12] [] (fun zz : (Nat) × (Nat → Int) => match zz with | (y, q) => (ls.length - 1 - y : Nat)) (fun zz : (Nat) × (Nat → Int) => match zz with | (y, q) => (y ≤ ls.length - 1 ∧ q = rd ls y 0 ∧ ∀ y', y' < y → (gS ls y').length = (gS ls 0).length ∧ kinAll ls y' (gS ls 0).length : Prop)) (fun zz : (Nat) × (Nat → Int) => match zz with | (y, q) => [(8, .a (.d (.s (.int .i64 (y : Nat)))))]) (fun zz : (Nat) × (Nat → Int) => match zz with | (y, q) => [(2, .flat false (List.replicate 2 (.int .i8 0) ++ List.replicate 100 (.int .u8 0))), (7, .flat false (lawnS (gS ls 0).length ((ls.length : Int) - 1) q))]) (0, fun _ => 0) (⟨by omega, (rd_zero ls).symm, fun y' h => by omega⟩) ⟨rfl, trivial⟩ ⟨rfl, rfl, trivial⟩ trivial ?_)
    rintro ⟨y, q⟩ σ hP hN; dsimp only [setL, putL] at hP ⊢
    obtain ⟨hy, rfl, hP3⟩ := hP
    rename_i he h1
    by_cases hyl : y < ls.length - 1
    · repeat' first | ((with_reducible apply WR.mv); exact rfl; exact rfl) | ((with_reducible apply WR.st); exact rfl; exact rfl; exact rfl; exact storeAll (by first | exact rfl) (by first | exact rfl)) | ((with_reducible apply WR.ld); exact rfl; exact rfl; exact rfl; (first | exact ldS (by first | omega))) | ((with_reducible apply WR.isn); exact rfl; exact rfl; exact rfl; omega) | ((with_reducible apply WR.bu); exact rfl; exact rfl) | ((with_reducible apply WR.lss); exact rfl; exact rfl; exact rfl) | ((with_reducible apply WR.le); exact rfl; exact rfl) | ((with_reducible apply WR.nil)) | (with_reducible refine andThen_n ?_) | (with_reducible refine andThen_r ?_) | (with_reducible refine inB_r ?_) | (with_reducible refine W.seq ?_) | (with_reducible refine W.region ?_) | (with_reducible refine W.skip ?_) | (with_reducible refine W.ret ?_) | (with_reducible refine W.block ?_) | ((with_reducible apply W.condT); exact rfl) | ((with_reducible apply W.condF); exact rfl) | ((with_reducible apply Done.f); (intro hh hh2; exact (nomatch hh2)); (focus ((repeat' first | exact all_nil | apply all_cons | exact res_tmp rfl | exact res_cell rfl rfl (by first | exact rfl) | exact rfl); done)); (focus ((repeat' first | exact all_nil | apply all_cons | exact retOf_s rfl | exact retOf_a rfl | exact rfl); done)); exact rfl; (focus ((repeat' first | exact outs_nil | apply outs_d | exact rfl); done))) | (intro hb; try (exfalso; omega)) | ((with_reducible apply WR.neq); exact rfl; exact rfl; exact rfl)
      · exact bad (fun g => hb (by have := (g.2.2.2 y hyl).1; omega))
      · (refine W.loopM [2, 4, 5, 6, 7, 8] [12] [] (fun zz : (Nat) × (Nat → Int) => match zz with | (x, q) => ((gS ls 0).length - x : Nat)) (fun zz : (Nat) × (Nat → Int) => match zz with | (x, q) => (x ≤ (gS ls 0).length ∧ q = rd ls y x ∧ kinAll ls y x : Prop)) (fun zz : (Nat) × (Nat → Int) => match zz with | (x, q) => [(9, .a (.d (.s (.int .i64 (x : Nat)))))]) (fun zz : (Nat) × (Nat → Int) => match zz with | (x, q) => [(2, .flat false (List.replicate 2 (.int .i8 0) ++ List.replicate 100 (.int .u8 0))), (7, .flat false (lawnS (gS ls 0).length ((ls.length : Int) - 1) q))]) (0, rd ls y 0) (⟨by omega, rfl, fun x' h => by omega⟩) ⟨rfl, trivial⟩ ⟨rfl, rfl, trivial⟩ trivial ?_)
        rintro ⟨x, q⟩ σ hP hN; dsimp only [setL, putL] at hP ⊢
        obtain ⟨hx, rfl, hQ⟩ := hP
        by_cases hxl : x < (gS ls 0).length
        · have hk := kinL_b ((gS ls y).getD (x : Int).toNat 0)
          repeat' first | ((with_reducible apply WR.st); exact rfl; exact rfl; exact rfl; exact stL (by omega)) | ((with_reducible apply WR.c_s (f := 237) (fn := Code.f237)); exact rfl; exact rfl; exact rfl; (first | exact rfl); (focus ((repeat' first | exact args_nil | apply args_d | exact toD_d rfl | exact all_nil | apply all_cons | exact rfl); done)); exact l01Letter_gives _) | ((with_reducible apply WR.c_s (f := 237) (fn := Code.f237)); exact rfl; exact rfl; exact rfl; (first | exact rfl); (focus ((repeat' first | exact args_nil | apply args_d | exact toD_d rfl | exact all_nil | apply all_cons | exact rfl); done)); exact l01Letter_gives _) | ((with_reducible apply WR.mv); exact rfl; exact rfl) | ((with_reducible apply WR.st); exact rfl; exact rfl; exact rfl; exact storeAll (by first | exact rfl) (by first | exact rfl)) | ((with_reducible apply WR.ld); exact rfl; exact rfl; exact rfl; (first | exact ldS (by first | omega))) | ((with_reducible apply WR.isn); exact rfl; exact rfl; exact rfl; omega) | ((with_reducible apply WR.bu); exact rfl; exact rfl) | ((with_reducible apply WR.lss); exact rfl; exact rfl; exact rfl) | ((with_reducible apply WR.cv); exact rfl; exact rfl; (first | exact i64_in _ (by omega) | exact u8_in _ (by omega))) | ((with_reducible apply WR.nil)) | (with_reducible refine andThen_n ?_) | (with_reducible refine andThen_r ?_) | (with_reducible refine inB_n ?_) | (with_reducible refine inB_r ?_) | (with_reducible refine W.seq ?_) | (with_reducible refine W.region ?_) | (with_reducible refine W.skip ?_) | (with_reducible refine W.ret ?_) | (with_reducible refine W.block ?_) | ((with_reducible apply W.condT); exact rfl) | ((with_reducible apply W.condF); exact rfl) | ((with_reducible apply Done.f); (intro hh hh2; exact (nomatch hh2)); (focus ((repeat' first | exact all_nil | apply all_cons | exact res_tmp rfl | exact res_cell rfl rfl (by first | exact rfl) | exact rfl); done)); (focus ((repeat' first | exact all_nil | apply all_cons | exact retOf_s rfl | exact retOf_a rfl | exact rfl); done)); exact rfl; (focus ((repeat' first | exact outs_nil | apply outs_d | exact rfl); done))) | (intro hb; try (exfalso; omega)) | ((with_reducible apply WR.ad); exact rfl; exact rfl; exact rfl; (first | exact i64_in _ (by omega) | exact u8_in _ (by omega))) | ((with_reducible apply WR.ia); exact rfl; exact rfl; exact rfl; omega) | ((with_reducible apply WR.ist); exact rfl; exact rfl; exact rfl; (first | omega)) | ((with_reducible apply WR.fa); exact rfl; exact rfl)
          · exact bad (fun g => by have := (g.2.2.2 y hyl).2 x hxl; have hb' : kinL ((gS ls y).getD x 0) < 0 := hb; omega)
          · (refine W.nxt ((x + 1, gset (rd ls y x) (10 * y + x) (kinL ((gS ls y).getD x 0)))) (by first | omega | (dsimp only; omega)) ?_ ⟨rfl, trivial⟩ ⟨rfl, rfl, trivial⟩ ⟨rfl, rfl, rfl, rfl, rfl, rfl, trivial⟩ ⟨rfl, trivial⟩ trivial); (try dsimp only)
            refine ⟨by omega, rd_step (by omega) (by omega), fun x' hx' => ?_⟩
            by_cases e : x' = x
            · subst e; exact Int.not_lt.1 hb
            · exact hQ x' (by omega)
        · repeat' first | ((with_reducible apply WR.mv); exact rfl; exact rfl) | ((with_reducible apply WR.lss); exact rfl; exact rfl; exact rfl) | ((with_reducible apply WR.nil)) | (with_reducible refine andThen_n ?_) | (with_reducible refine andThen_x ?_) | (with_reducible refine inB_n ?_) | (with_reducible refine inB_x ?_) | (with_reducible refine W.seq ?_) | (with_reducible refine W.region ?_) | (with_reducible refine W.exit ?_) | ((with_reducible apply W.condF); exact rfl) | (intro hb; try (exfalso; omega)) | ((with_reducible apply WR.ad); exact rfl; exact rfl; exact rfl; (first | exact i64_in _ (by omega)))
          (refine W.nxt ((y + 1, rd ls y x)) (by first | omega | (dsimp only; omega)) ?_ ⟨rfl, trivial⟩ ⟨rfl, rfl, trivial⟩ ⟨rfl, rfl, rfl, rfl, rfl, trivial⟩ ⟨rfl, trivial⟩ trivial); (try dsimp only)
          refine ⟨by omega, rd_row (.inl (by omega)), fun y' hy' => ?_⟩
          by_cases e : y' = y
          · subst e; exact ⟨by omega, fun x' hx' => hQ x' (by omega)⟩
          · exact hP3 y' (by omega)
    · obtain rfl : y = ls.length - 1 := by omega
      have good : Good ls := ⟨by omega, by omega, by rw [show ((ls.length : Int) - 1).toNat = ls.length - 1 by omega] at he; exact he, hP3⟩
      rw [readR, if_pos good]
      repeat' first | ((with_reducible apply WR.mv); exact rfl; exact rfl) | ((with_reducible apply WR.st); exact rfl; exact rfl; exact rfl; exact storeAll (by first | exact rfl) (by first | exact rfl)) | ((with_reducible apply WR.lx); exact rfl; exact rfl) | ((with_reducible apply WR.lss); exact rfl; exact rfl; exact rfl) | ((with_reducible apply WR.nil)) | (with_reducible refine andThen_n ?_) | (with_reducible refine andThen_x ?_) | (with_reducible refine inB_x ?_) | (with_reducible refine W.seq ?_) | (with_reducible refine W.region ?_) | (with_reducible refine W.ret ?_) | (with_reducible refine W.exit ?_) | ((with_reducible apply W.condF); exact rfl) | ((with_reducible apply Done.f); (intro hh hh2; exact (nomatch hh2)); (focus ((repeat' first | exact all_nil | apply all_cons | exact res_tmp rfl | exact res_cell rfl rfl (by first | exact rfl) | exact rfl); done)); (focus ((repeat' first | exact all_nil | apply all_cons | exact retOf_s rfl | exact retOf_a rfl | exact rfl); done)); exact rfl; (focus ((repeat' first | exact outs_nil | apply outs_d | exact rfl); done))) | (intro hb; try (exfalso; omega))
      rfl
  · exact bad (fun g => hb (by have := g.2.1; omega))
  · exact bad (fun g => hb (by have := g.1; omega))
theorem split_gives (s : List UInt8) (c : UInt8) (hs : s.length ≤ 2000000) : Gives G 238 [.d (.s (.str s)), .d (.s (.str [c]))] ⟨[.own (pieces c s).length 1 (encS (pieces c s))], []⟩ :=
  Gives.given rfl rfl (by
    simp only [splitO]
    rw [if_pos hs, encS_map])
theorem letK_kinL {c : UInt8} (h : 0 ≤ kinL c) : letK (kinL c) = c := by
  rw [kinL_eq] at h ⊢
  split
  · rename_i e; rw [e]; rfl
  · split
    · rename_i e; rw [e]; rfl
    · split
      · rename_i e; rw [e]; rfl
      · split
        · rename_i e; rw [e]; rfl
        · rename_i h1 h2 h3 h4; simp [h1, h2, h3, h4] at h
theorem letK_ne (k : Int) : letK k ≠ 10 := by
  unfold letK
  match k.toNat with
  | 0 => decide
  | 1 => decide
  | 2 => decide
  | 3 => decide
  | n + 4 => simp
theorem good_ok {ls : List (List UInt8)} (g : Good ls) : LawnOk (gS ls 0).length ((ls.length : Int) - 1) (rd ls (ls.length - 1) 0) := by
  obtain ⟨h1, h2, h3, h4⟩ := g
  refine ⟨by omega, by omega, fun k hk => ⟨?_, ?_⟩⟩
  · unfold rd
    split
    · exact (kinL_b _).2
    · omega
  · by_cases hc : (k / 10 < ls.length - 1 ∨ k / 10 = ls.length - 1 ∧ k % 10 < 0) ∧ k % 10 < (gS ls (k / 10)).length
    · right
      have := (h4 (k / 10) (by omega)).1
      omega
    · left; unfold rd; rw [if_neg hc]
theorem ls_rows {ls : List (List UInt8)} (hl : 1 ≤ ls.length) (h : gS ls (ls.length - 1) = []) : ls = (List.range (ls.length - 1)).map (gS ls) ++ [[]] := by
  apply List.ext_getElem?
  intro i
  by_cases hi : i < ls.length - 1
  · rw [List.getElem?_append_left (by simpa using hi), gS_get (by omega)]
    simp [hi]
  · by_cases e : i = ls.length - 1
    · rw [List.getElem?_append_right (by simp; omega), gS_get (by omega), e, h]
      simp
    · rw [List.getElem?_eq_none (by omega), List.getElem?_eq_none (by simp; omega)]
theorem lawnT_rows {ls : List (List UInt8)} (hok : LawnOk (gS ls 0).length ((ls.length : Int) - 1) (rd ls (ls.length - 1) 0)) :
    lawnT (gS ls 0).length ((ls.length : Int) - 1) (rd ls (ls.length - 1) 0) = (List.range (ls.length - 1)).flatMap fun y => rowL (letG (rd ls (ls.length - 1) 0)) (gS ls 0).length y ++ [10] := by
  rw [lawnT, if_pos hok, show ((ls.length : Int) - 1) = ((ls.length - 1 : Nat) : Int) by have := hok.2.1; omega, textC_all _ _ _ (by have := hok.1; omega)]
theorem good_text {s : List UInt8} {ls : List (List UInt8)} (hls : pieces 10 s = ls) (g : Good ls) : lawnT (gS ls 0).length ((ls.length : Int) - 1) (rd ls (ls.length - 1) 0) = s := by
  rw [lawnT_rows (good_ok g)]
  obtain ⟨h1, h2, h3, h4⟩ := g
  have hr := ls_rows (by omega) h3
  have hs : s = unp 10 ls := by rw [← hls, unp_pieces]
  rw [hs]
  conv => rhs; rw [hr]
  rw [unp_snoc, List.append_nil, List.flatMap_map]
  refine fm_congr fun y hy => ?_
  rw [List.mem_range] at hy
  have h5 := h4 y hy
  rw [row_ext (l := gS ls y) h5.1 fun x hx => ?_]
  have e : rd ls (ls.length - 1) 0 (10 * y + x) = kinL ((gS ls y).getD x 0) := by
    unfold rd
    have e1 : (10 * y + x) / 10 = y := by omega
    have e2 : (10 * y + x) % 10 = x := by omega
    rw [e1, e2, if_pos ⟨by omega, by omega⟩]
  show letK (rd ls (ls.length - 1) 0 (10 * (y : Int).toNat + (x : Int).toNat)) = _
  rw [Int.toNat_natCast, Int.toNat_natCast, e]
  exact letK_kinL (h5.2 x hx)
theorem text_good {s : List UInt8} {ls : List (List UInt8)} (hls : pieces 10 s = ls) (hok : LawnOk (gS ls 0).length ((ls.length : Int) - 1) (rd ls (ls.length - 1) 0))
    (ht : lawnT (gS ls 0).length ((ls.length : Int) - 1) (rd ls (ls.length - 1) 0) = s) (hk : ∀ y, y < ls.length - 1 → kinAll ls y (Nat.min (gS ls y).length 10)) : Good ls := by
  rw [lawnT_rows hok] at ht
  generalize hL : letG (rd ls (ls.length - 1) 0) = L at ht
  generalize hW : (gS ls 0).length = W at ht hok
  generalize hH : ls.length - 1 = H at ht hk
  have h10 : ∀ l ∈ (List.range H).map (rowL L W), (10 : UInt8) ∉ l := by
    intro l hl
    obtain ⟨y, _, rfl⟩ := List.mem_map.1 hl
    intro hh
    obtain ⟨x, _, hx⟩ := List.mem_map.1 hh
    rw [← hL] at hx
    exact letK_ne _ hx
  have hp := pieces_lines (c := 10) ((List.range H).map (rowL L W)) [] h10
  rw [List.append_nil, List.flatMap_map] at hp
  rw [← ht] at hls
  have e : ls = (List.range H).map (rowL L W) ++ [[]] := by rw [← hls]; exact hp
  have hlen : ls.length = H + 1 := by rw [e]; simp
  have hrow : ∀ y, y < H → gS ls y = rowL L W y := fun y hy => by
    rw [e]; simp [gS, List.getD_eq_getElem?_getD, List.getElem?_append_left, hy]
  have hlast : gS ls H = [] := by
    rw [e]; simp [gS, List.getD_eq_getElem?_getD, List.getElem?_append_right]
  have h1 := hok.1; have h2 := hok.2.1
  refine ⟨by omega, by omega, by rw [hH]; exact hlast, fun y hy => ?_⟩
  rw [hH] at hy
  have hl : (gS ls y).length = W := by rw [hrow y hy, rowL_len]
  rw [hW]
  refine ⟨hl, fun x hx => hk y hy x ?_⟩
  rw [hl]
  exact Nat.lt_min.2 ⟨hx, by omega⟩
theorem eqByteA10_gives (f : Nat → Int) : Gives G 246 [aa (rowI .u8 10 f), aa (rowI .u8 10 f)] (rb true) := by
  refine Gives.by rfl rfl (W.seq ?_)
  repeat' first | ((with_reducible apply WR.mv); exact rfl; exact rfl) | ((with_reducible apply WR.nil)) | (with_reducible refine andThen_n ?_) | (with_reducible refine W.seq ?_) | (with_reducible refine W.region ?_) | (with_reducible refine W.block ?_) | ((with_reducible apply WR.bx); exact rfl; exact rfl; exact (by first | exact rowI_len | exact rfl); (first | exact rfl))
  (refine W.loopM [2, 3] [2, 3] [] (fun i : (Nat) => (10 - i : Nat)) (fun i : (Nat) => (i ≤ 10 : Prop)) (fun i : (Nat) => [(5, .a (.d (.s (.int .i64 (i : Nat)))))]) (fun i : (Nat) => []) 0 (by (try dsimp only); first | omega | exact trivial | exact ⟨by omega, rfl⟩ | exact ⟨by omega, by omega, rfl⟩ | (refine ⟨by omega, ?_⟩; simp; done) | (simp; done)) ⟨rfl, trivial⟩ trivial trivial ?_)
  rintro i σ hP hN; dsimp only [setL, putL] at hP ⊢
  repeat' first | ((with_reducible apply WR.mv); exact rfl; exact rfl) | ((with_reducible apply WR.nil)) | (with_reducible refine andThen_n ?_) | (with_reducible refine andThen_x ?_) | (with_reducible refine inB_n ?_) | (with_reducible refine inB_x ?_) | (with_reducible refine W.seq ?_) | (with_reducible refine W.region ?_) | (with_reducible refine W.skip ?_) | (with_reducible refine W.ret ?_) | (with_reducible refine W.exit ?_) | (with_reducible refine W.block ?_) | ((with_reducible apply W.condT); exact rfl) | ((with_reducible apply W.condF); exact rfl) | ((with_reducible apply Done.f); (intro hh hh2; exact (nomatch hh2)); (focus ((repeat' first | exact all_nil | apply all_cons | exact res_tmp rfl); done)); (focus ((repeat' first | exact all_nil | apply all_cons | exact retOf_s rfl); done)); exact rfl; (focus ((repeat' first | exact outs_nil | apply outs_d); done))) | ((with_reducible apply WH.nil)) | (with_reducible refine W.draw ?_) | (intro hb; try (exfalso; omega)) | ((with_reducible apply WH.mv); exact rfl; exact rfl; exact rfl) | ((with_reducible apply WH.ld); exact rfl; exact rfl; exact rfl; (first | exact ldR (by omega)); exact rfl) | ((with_reducible apply WH.ia); exact rfl; exact rfl; exact rfl; omega; exact rfl) | ((with_reducible apply WR.lss); exact rfl; exact rfl; exact rfl) | ((with_reducible apply WR.ad); exact rfl; exact rfl; exact rfl; (first | exact i64_in _ (by omega))) | ((with_reducible apply WH.neq); exact rfl; exact rfl; exact rfl)
  · (refine W.nxt (i + 1) (by first | omega | (dsimp only; omega)) ?_ ⟨rfl, trivial⟩ trivial ⟨rfl, rfl, trivial⟩ ⟨rfl, rfl, trivial⟩ trivial); (try dsimp only)
    omega
  · rfl
theorem eqBytes_gives (q : Nat → Int) : Gives G 240 [aa (grid .u8 q), aa (grid .u8 q)] (rb true) := by
  refine Gives.by rfl rfl (W.seq ?_)
  repeat' first | ((with_reducible apply WR.mv); exact rfl; exact rfl) | ((with_reducible apply WR.nil)) | (with_reducible refine andThen_n ?_) | (with_reducible refine W.seq ?_) | (with_reducible refine W.region ?_) | (with_reducible refine W.block ?_) | ((with_reducible apply WR.bx); exact rfl; exact rfl; exact (by first | exact grid_len | exact rfl); (first | exact rfl))
  (refine W.loopM [2, 3] [2, 3] [] (fun i : (Nat) => (10 - i : Nat)) (fun i : (Nat) => (i ≤ 10 : Prop)) (fun i : (Nat) => [(5, .a (.d (.s (.int .i64 (i : Nat)))))]) (fun i : (Nat) => []) 0 (by (try dsimp only); first | omega | exact trivial | exact ⟨by omega, rfl⟩ | exact ⟨by omega, by omega, rfl⟩ | (refine ⟨by omega, ?_⟩; simp; done) | (simp; done)) ⟨rfl, trivial⟩ trivial trivial ?_)
  rintro i σ hP hN; dsimp only [setL, putL] at hP ⊢
  repeat' first | ((with_reducible apply WH.c_s (f := 246) (fn := Code.f246)); exact rfl; exact rfl; exact rfl; (first | exact rfl); (focus ((repeat' first | exact args_nil | apply args_d | exact toD_d rfl | exact all_nil | apply all_cons | exact rfl); done)); exact eqByteA10_gives _; exact rfl) | ((with_reducible apply WH.c_s (f := 246) (fn := Code.f246)); exact rfl; exact rfl; exact rfl; (first | exact rfl); (focus ((repeat' first | exact args_nil | apply args_d | exact toD_d rfl | exact all_nil | apply all_cons | exact rfl); done)); exact eqByteA10_gives _; exact rfl) | ((with_reducible apply WR.mv); exact rfl; exact rfl) | ((with_reducible apply WR.nil)) | (with_reducible refine andThen_n ?_) | (with_reducible refine andThen_x ?_) | (with_reducible refine inB_n ?_) | (with_reducible refine inB_x ?_) | (with_reducible refine W.seq ?_) | (with_reducible refine W.region ?_) | (with_reducible refine W.skip ?_) | (with_reducible refine W.ret ?_) | (with_reducible refine W.exit ?_) | (with_reducible refine W.block ?_) | ((with_reducible apply W.condT); exact rfl) | ((with_reducible apply W.condF); exact rfl) | ((with_reducible apply Done.f); (intro hh hh2; exact (nomatch hh2)); (focus ((repeat' first | exact all_nil | apply all_cons | exact res_tmp rfl | exact rfl); done)); (focus ((repeat' first | exact all_nil | apply all_cons | exact retOf_s rfl | exact rfl); done)); exact rfl; (focus ((repeat' first | exact outs_nil | apply outs_d | exact rfl); done))) | ((with_reducible apply WH.nil)) | (with_reducible refine W.draw ?_) | (intro hb; try (exfalso; omega)) | ((with_reducible apply WH.mv); exact rfl; exact rfl; exact rfl) | ((with_reducible apply WH.ld); exact rfl; exact rfl; exact rfl; (first | exact ldRow (by omega) (by omega)); exact rfl) | ((with_reducible apply WH.ia); exact rfl; exact rfl; exact rfl; omega; exact rfl) | ((with_reducible apply WR.lss); exact rfl; exact rfl; exact rfl) | ((with_reducible apply WR.ad); exact rfl; exact rfl; exact rfl; (first | exact i64_in _ (by omega))) | ((with_reducible apply WH.un); exact rfl; exact rfl; exact rfl)
  · (refine W.nxt (i + 1) (by first | omega | (dsimp only; omega)) ?_ ⟨rfl, trivial⟩ trivial ⟨rfl, rfl, trivial⟩ ⟨rfl, rfl, trivial⟩ trivial); (try dsimp only)
    omega
  · rfl
theorem eqLawn_gives (w h : Int) (q : Nat → Int) : Gives G 228 [aa (lawnS w h q), aa (lawnS w h q)] (rb true) := by
  refine Gives.by rfl rfl (W.seq ?_)
  repeat' first | ((with_reducible apply WR.c_s (f := 240) (fn := Code.f240)); exact rfl; exact rfl; exact rfl; (first | exact rfl); (focus ((repeat' first | exact args_nil | apply args_d | exact toD_d rfl | exact all_nil | apply all_cons | exact rfl); done)); exact eqBytes_gives _) | ((with_reducible apply WR.c_s (f := 240) (fn := Code.f240)); exact rfl; exact rfl; exact rfl; (first | exact rfl); (focus ((repeat' first | exact args_nil | apply args_d | exact toD_d rfl | exact all_nil | apply all_cons | exact rfl); done)); exact eqBytes_gives _) | ((with_reducible apply WR.ld); exact rfl; exact rfl; exact rfl; (first | exact loadC_all grid_len)) | ((with_reducible apply WR.lx); exact rfl; exact rfl) | ((with_reducible apply WR.fa); exact rfl; exact rfl) | ((with_reducible apply WR.mv); exact rfl; exact rfl) | ((with_reducible apply WR.nil)) | (with_reducible refine andThen_n ?_) | (with_reducible refine W.seq ?_) | (with_reducible refine W.region ?_) | (with_reducible refine W.skip ?_) | (with_reducible refine W.ret ?_) | ((with_reducible apply W.condF); exact rfl) | ((with_reducible apply Done.f); (intro hh hh2; exact (nomatch hh2)); (focus ((repeat' first | exact all_nil | apply all_cons | exact res_tmp rfl | exact rfl); done)); (focus ((repeat' first | exact all_nil | apply all_cons | exact retOf_s rfl | exact rfl); done)); exact rfl; (focus ((repeat' first | exact outs_nil | apply outs_d | exact rfl); done))) | (intro hb; try (exfalso; omega)) | ((with_reducible apply WR.neq); exact rfl; exact rfl; exact rfl) | ((with_reducible apply WR.bx); exact rfl; exact rfl; exact (by first | exact rfl); (first | exact rfl)) | ((with_reducible apply WR.un); exact rfl; exact rfl)
  rfl
theorem isLawn_S (w h : Int) (q : Nat → Int) (hw : -128 ≤ w ∧ w ≤ 127) (hh : -128 ≤ h ∧ h ≤ 127) (hq : ∀ k, k < 100 → 0 ≤ q k ∧ q k ≤ 255) : IsLawn w h q (lawnS w h q) :=
  ⟨hw, hh, hq, by simp [lawnS, grid_len], rfl, rfl, fun k hk => by
    unfold lawnS
    rw [List.getElem?_append_right (by simp)]
    simpa using grid_get hk⟩
theorem kin_gives (c : UInt8) : Gives G 116 [.d (.s (.str [46, 35, 84, 61])), .d (.s (.int .u8 ((c.toNat : Nat) : Int)))] (ri .i64 (kinL c)) :=
  Gives.given rfl rfl (by simp [indexByteO, kinL])
theorem rd_b (ls : List (List UInt8)) (y x : Nat) (hk : ∀ y', y' < y → kinAll ls y' (Nat.min (gS ls y').length 10)) (hx : x = 0) : ∀ k, k < 100 → 0 ≤ rd ls y x k ∧ rd ls y x k ≤ 255 := fun k _ => by
  unfold rd
  split
  · rename_i h
    have h1 := kinL_b ((gS ls (k / 10)).getD (k % 10) 0)
    have h2 := hk (k / 10) (by omega) (k % 10) (Nat.lt_min.2 ⟨h.2, by omega⟩)
    omega
  · omega
theorem progRead_gives (s : List UInt8) (hs : s.length ≤ 1048576) : Gives G 227 [.d (.s (.str s))] (readR (pieces 10 s)) := by
  have hne := pieces_ne 10 s
  have hle := pieces_le 10 s
  generalize hls : pieces 10 s = ls at hne hle ⊢
  have hpos : 0 < ls.length := List.length_pos_iff.2 hne
  have hsp : Gives G 238 [.d (.s (.str s)), .d (.s (.str [10]))] ⟨[.own ls.length 1 (encS ls)], []⟩ := by
    rw [← hls]; exact split_gives s 10 (by omega)
  have hh : 1 ≤ ls.length := hpos
  refine Gives.by rfl rfl (W.seq ?_)
  have bad : ¬ Good ls → (⟨[.agg (List.replicate 2 (S.int IntKind.i8 0) ++ List.replicate 100 (S.int IntKind.u8 0)), .s (S.int IntKind.i64 5)], []⟩ : Res) = readR ls := fun h => by rw [readR, if_neg h]; rfl
  have hbd : 1 ≤ ls.length → ∀ m, bound (some (.a (.d (.s (.int .i64 ((ls.length : Int) - 1)))))) m = some (ls.length - 1) := fun h m => by
    show (if 0 ≤ ((ls.length : Int) - 1) then some ((ls.length : Int) - 1).toNat else none) = _
    rw [if_pos (by omega)]; congr 1; omega
  repeat' first | ((with_reducible apply WR.c_o (f := 238) (fn := Code.f238)); exact rfl; exact rfl; exact rfl; (first | exact rfl); (focus ((repeat' first | exact args_nil | apply args_d | exact toD_d rfl | exact all_nil | apply all_cons | exact rfl); done)); exact hsp; (first | exact rfl)) | ((with_reducible apply WR.s2 (l := 0) (h := ls.length - 1)); exact rfl; exact rfl; exact rfl; exact hbd hh _; exact ⟨by omega, by omega⟩) | ((with_reducible apply WR.mv); exact rfl; exact rfl) | ((with_reducible apply WR.ld); exact rfl; exact rfl; exact rfl; (first | exact ldS (by first | omega))) | ((with_reducible apply WR.st); exact rfl; exact rfl; exact rfl; exact storeAll (by first | exact rfl) (by first | exact rfl)) | ((with_reducible apply WR.off); exact rfl) | ((with_reducible apply WR.le); exact rfl; exact rfl) | ((with_reducible apply WR.lss); exact rfl; exact rfl; exact rfl) | ((with_reducible apply WR.bu); exact rfl; exact rfl) | ((with_reducible apply WR.cv); exact rfl; exact rfl; (first | exact i64_in _ (by omega) | exact i8_in _ (by omega))) | ((with_reducible apply WR.isn); exact rfl; exact rfl; exact rfl; omega) | ((with_reducible apply WR.pk); exact rfl; exact rfl) | ((with_reducible apply WR.nil)) | (with_reducible refine andThen_n ?_) | (with_reducible refine andThen_r ?_) | (with_reducible refine W.seq ?_) | (with_reducible refine W.region ?_) | (with_reducible refine W.skip ?_) | (with_reducible refine W.ret ?_) | (with_reducible refine W.block ?_) | ((with_reducible apply W.condT); exact rfl) | ((with_reducible apply W.condF); exact rfl) | ((with_reducible apply Done.f); (intro hh hh2; exact (nomatch hh2)); (focus ((repeat' first | exact all_nil | apply all_cons | exact res_tmp rfl | exact res_cell rfl rfl (by first | exact rfl) | exact rfl); done)); (focus ((repeat' first | exact all_nil | apply all_cons | exact retOf_s rfl | exact retOf_a rfl | exact rfl); done)); exact rfl; (focus ((repeat' first | exact outs_nil | apply outs_d | exact rfl); done))) | (intro hb; try (exfalso; omega)) | ((with_reducible apply WR.gtr); exact rfl; exact rfl; exact rfl) | ((with_reducible apply WR.al); exact rfl; (first | exact rfl)) | ((with_reducible apply WR.sb); exact rfl; exact rfl; exact rfl; (first | exact i64_in _ (by omega) | exact i8_in _ (by omega)))
  all_goals try simp only [Int.toNat_zero] at hb ⊢
  all_goals try exact bad (fun g => by have := g.1; have := g.2.1; omega)
  rename_i h1 h2
  (refine W.loopM [0, 2, 6, 40, 41] [12] [] (fun zz : (Nat) × (Nat → Int) => match zz with | (y, q) => (ls.length - 1 - y : Nat)) (fun zz : (Nat) × (Nat → Int) => match zz with | (y, q) => (y ≤ ls.length - 1 ∧ q = rd ls y 0 ∧ ∀ y', y' < y → kinAll ls y' (Nat.min (gS ls y').length 10) : Prop)) (fun zz : (Nat) × (Nat → Int) => match zz with | (y, q) => [(42, .a (.d (.s (.int .i64 (y : Nat)))))]) (fun zz : (Nat) × (Nat → Int) => match zz with | (y, q) => [(2, .flat false (List.replicate 2 (.int .i8 0) ++ List.replicate 100 (.int .u8 0))), (6, .flat false (lawnS (gS ls 0).length ((ls.length : Int) - 1) q))]) (0, fun _ => 0) (⟨by omega, (rd_zero ls).symm, fun y' h => by omega⟩) ⟨rfl, trivial⟩ ⟨rfl, rfl, trivial⟩ trivial ?_)
  rintro ⟨y, q⟩ σ hP hN; dsimp only [setL, putL] at hP ⊢
  obtain ⟨hy, rfl, hP3⟩ := hP
  by_cases hyl : y < ls.length - 1
  · repeat' first | ((with_reducible apply WR.ld); exact rfl; exact rfl; exact rfl; exact ldS (l := ls) (k := y) (by omega)) | ((with_reducible apply WR.mv); exact rfl; exact rfl) | ((with_reducible apply WR.le); exact rfl; exact rfl) | ((with_reducible apply WR.lss); exact rfl; exact rfl; exact rfl) | ((with_reducible apply WR.isn); exact rfl; exact rfl; exact rfl; omega) | ((with_reducible apply WR.nil)) | (with_reducible refine andThen_n ?_) | (with_reducible refine W.seq ?_) | (with_reducible refine W.region ?_) | (with_reducible refine W.skip ?_) | (with_reducible refine W.block ?_) | ((with_reducible apply W.condT); exact rfl) | (intro hb; try (exfalso; omega)) | ((with_reducible apply WR.mi); exact rfl; exact rfl; exact rfl)
    (refine W.loopM [0, 2, 6, 7, 8, 40, 41, 42, 49] [12] [] (fun zz : (Nat) × (Nat → Int) => match zz with | (x, q) => ((gS ls y).length - x : Nat)) (fun zz : (Nat) × (Nat → Int) => match zz with | (x, q) => (x ≤ Nat.min (gS ls y).length 10 ∧ q = rd ls y x ∧ kinAll ls y x : Prop)) (fun zz : (Nat) × (Nat → Int) => match zz with | (x, q) => [(50, .a (.d (.s (.int .i64 (x : Nat)))))]) (fun zz : (Nat) × (Nat → Int) => match zz with | (x, q) => [(2, .flat false (List.replicate 2 (.int .i8 0) ++ List.replicate 100 (.int .u8 0))), (6, .flat false (lawnS (gS ls 0).length ((ls.length : Int) - 1) q))]) (0, rd ls y 0) (⟨Nat.zero_le _, rfl, fun x' h => by omega⟩) ⟨rfl, trivial⟩ ⟨rfl, rfl, trivial⟩ trivial ?_)
    rintro ⟨x, q⟩ σ hP hN; dsimp only [setL, putL] at hP ⊢
    obtain ⟨hx, rfl, hQ⟩ := hP
    have hm : (Nat.min (gS ls y).length 10 ≤ (gS ls y).length ∧ Nat.min (gS ls y).length 10 ≤ 10) := ⟨Nat.min_le_left _ _, Nat.min_le_right _ _⟩
    by_cases hxl : x < (gS ls y).length ∧ x < 10
    · have hk := kinL_b ((gS ls y).getD (x : Int).toNat 0)
      repeat' first | ((with_reducible apply WR.c_s (f := 116) (fn := Code.f116)); exact rfl; exact rfl; exact rfl; (first | exact rfl); (focus ((repeat' first | exact args_nil | apply args_d | exact toD_d rfl | exact all_nil | apply all_cons | exact rfl); done)); exact kin_gives _) | ((with_reducible apply WR.st); exact rfl; exact rfl; exact rfl; exact stL (by omega)) | ((with_reducible apply WR.mv); exact rfl; exact rfl) | ((with_reducible apply WR.st); exact rfl; exact rfl; exact rfl; exact storeAll (by first | exact rfl) (by first | exact rfl)) | ((with_reducible apply WR.lss); exact rfl; exact rfl; exact rfl) | ((with_reducible apply WR.bu); exact rfl; exact rfl) | ((with_reducible apply WR.cv); exact rfl; exact rfl; (first | exact i64_in _ (by omega) | exact u8_in _ (by omega))) | ((with_reducible apply WR.nil)) | (with_reducible refine andThen_n ?_) | (with_reducible refine andThen_r ?_) | (with_reducible refine inB_n ?_) | (with_reducible refine inB_r ?_) | (with_reducible refine W.seq ?_) | (with_reducible refine W.region ?_) | (with_reducible refine W.skip ?_) | (with_reducible refine W.ret ?_) | (with_reducible refine W.block ?_) | ((with_reducible apply W.condT); exact rfl) | ((with_reducible apply W.condF); exact rfl) | ((with_reducible apply Done.f); (intro hh hh2; exact (nomatch hh2)); (focus ((repeat' first | exact all_nil | apply all_cons | exact res_tmp rfl | exact res_cell rfl rfl (by first | exact rfl) | exact rfl); done)); (focus ((repeat' first | exact all_nil | apply all_cons | exact retOf_s rfl | exact retOf_a rfl | exact rfl); done)); exact rfl; (focus ((repeat' first | exact outs_nil | apply outs_d | exact rfl); done))) | (intro hb; try (exfalso; omega)) | ((with_reducible apply WR.ad); exact rfl; exact rfl; exact rfl; (first | exact i64_in _ (by omega) | exact u8_in _ (by omega))) | ((with_reducible apply WR.ia); exact rfl; exact rfl; exact rfl; omega) | ((with_reducible apply WR.ist); exact rfl; exact rfl; exact rfl; (first | omega)) | ((with_reducible apply WR.fa); exact rfl; exact rfl)
      · exact bad (fun g => by
          have h3 := g.2.2.2 y hyl
          have h4 := h3.2 x (by omega)
          have hb' : kinL ((gS ls y).getD x 0) < 0 := hb
          omega)
      · (refine W.nxt ((x + 1, gset (rd ls y x) (10 * y + x) (kinL ((gS ls y).getD x 0)))) (by first | omega | (dsimp only; omega)) ?_ ⟨rfl, trivial⟩ ⟨rfl, rfl, trivial⟩ ⟨rfl, rfl, rfl, rfl, rfl, rfl, rfl, rfl, rfl, trivial⟩ ⟨rfl, trivial⟩ trivial); (try dsimp only)
        refine ⟨Nat.le_min.2 ⟨by omega, by omega⟩, rd_step (by omega) (by omega), fun x' hx' => ?_⟩
        by_cases e : x' = x
        · subst e; exact Int.not_lt.1 hb
        · exact hQ x' (by omega)
    · repeat' first | ((with_reducible apply WR.mv); exact rfl; exact rfl) | ((with_reducible apply WR.lss); exact rfl; exact rfl; exact rfl) | ((with_reducible apply WR.nil)) | (with_reducible refine andThen_n ?_) | (with_reducible refine andThen_x ?_) | (with_reducible refine inB_n ?_) | (with_reducible refine inB_x ?_) | (with_reducible refine W.seq ?_) | (with_reducible refine W.region ?_) | (with_reducible refine W.exit ?_) | ((with_reducible apply W.condF); exact rfl) | (intro hb; try (exfalso; omega)) | ((with_reducible apply WR.ad); exact rfl; exact rfl; exact rfl; (first | exact i64_in _ (by omega)))
      (refine W.nxt ((y + 1, rd ls y x)) (by first | omega | (dsimp only; omega)) ?_ ⟨rfl, trivial⟩ ⟨rfl, rfl, trivial⟩ ⟨rfl, rfl, rfl, rfl, rfl, trivial⟩ ⟨rfl, trivial⟩ trivial); (try dsimp only)
      refine ⟨by omega, rd_row (by omega), fun y' hy' => ?_⟩
      by_cases e : y' = y
      · subst e
        exact fun x' hx' => hQ x' (by have := Nat.lt_min.1 hx'; omega)
      · exact hP3 y' (by omega)
  · obtain rfl : y = ls.length - 1 := by omega
    have hIs := isLawn_S (gS ls 0).length ((ls.length : Int) - 1) (rd ls (ls.length - 1) 0) (by omega) (by omega) (rd_b ls _ _ hP3 rfl)
    repeat' first | ((with_reducible apply WR.c_p (f := 30) (fn := Code.f30)); exact rfl; exact rfl; exact rfl; (first | exact rfl); (focus ((repeat' first | exact args_nil | apply args_d | exact toD_d rfl | exact all_nil | apply all_cons | exact rfl); done)); exact validLawn_gives (by assumption)) | ((with_reducible apply WR.c_s (f := 239) (fn := Code.f239)); exact rfl; exact rfl; exact rfl; (first | exact rfl); (focus ((repeat' first | exact args_nil | apply args_d | exact toD_d rfl | exact all_nil | apply all_cons | exact rfl); done)); exact lawnText_gives (by assumption)) | ((with_reducible apply WR.c_s (f := 239) (fn := Code.f239)); exact rfl; exact rfl; exact rfl; (first | exact rfl); (focus ((repeat' first | exact args_nil | apply args_d | exact toD_d rfl | exact all_nil | apply all_cons | exact rfl); done)); exact lawnText_gives (by assumption)) | ((with_reducible apply WR.mv); exact rfl; exact rfl) | ((with_reducible apply WR.ld); exact rfl; exact rfl; exact rfl; (first | exact loadC_all (IsLawn.len (by assumption)))) | ((with_reducible apply WR.st); exact rfl; exact rfl; exact rfl; exact storeAll (by first | exact IsLawn.len (by assumption) | exact rfl) (by first | exact IsLawn.len (by assumption) | exact rfl)) | ((with_reducible apply WR.off); exact rfl) | ((with_reducible apply WR.lss); exact rfl; exact rfl; exact rfl) | ((with_reducible apply WR.bu); exact rfl; exact rfl) | ((with_reducible apply WR.pk); exact rfl; exact rfl) | ((with_reducible apply WR.nil)) | (with_reducible refine andThen_n ?_) | (with_reducible refine andThen_x ?_) | (with_reducible refine andThen_r ?_) | (with_reducible refine inB_x ?_) | (with_reducible refine W.seq ?_) | (with_reducible refine W.region ?_) | (with_reducible refine W.skip ?_) | (with_reducible refine W.ret ?_) | (with_reducible refine W.exit ?_) | ((with_reducible apply W.condT); exact rfl) | ((with_reducible apply W.condF); exact rfl) | ((with_reducible apply Done.f); (intro hh hh2; exact (nomatch hh2)); (focus ((repeat' first | exact all_nil | apply all_cons | exact res_tmp rfl | exact res_cell rfl rfl (by first | exact IsLawn.len (by assumption) | exact rfl) | exact rfl); done)); (focus ((repeat' first | exact all_nil | apply all_cons | exact retOf_s rfl | exact retOf_a rfl | exact rfl); done)); exact rfl; (focus ((repeat' first | exact outs_nil | apply outs_d | exact rfl); done))) | (intro hb; try (exfalso; omega)) | ((with_reducible apply WR.snq); exact rfl; exact rfl; exact rfl) | ((with_reducible apply WR.un); exact rfl; exact rfl)
    · exact bad (fun g => (by assumption : _ ≠ _) (good_text hls g))
    · have good : Good ls := text_good hls (by assumption) (by assumption) hP3
      rw [readR, if_pos good]; rfl
    · exact bad (fun g => (by assumption : ¬ LawnOk _ _ _) (good_ok g))
theorem law_ReadLawn (s : List UInt8) : Gives G 218 [.d (.s (.str s))] (rb true) := by
  refine Gives.by rfl rfl (W.seq ?_)
  by_cases hs : s.length ≤ 1048576
  · have h1 := specRead_gives s hs
    have h2 := progRead_gives s hs
    by_cases g : Good (pieces 10 s)
    · rw [readR, if_pos g] at h1 h2
      repeat' first | ((with_reducible apply WR.c_as (f := 226) (fn := Code.f226)); exact rfl; exact rfl; exact rfl; (first | exact rfl); (focus ((repeat' first | exact args_nil | apply args_d | exact toD_d rfl | exact all_nil | apply all_cons | exact rfl); done)); exact h1) | ((with_reducible apply WR.c_as (f := 227) (fn := Code.f227)); exact rfl; exact rfl; exact rfl; (first | exact rfl); (focus ((repeat' first | exact args_nil | apply args_d | exact toD_d rfl | exact all_nil | apply all_cons | exact rfl); done)); exact h2) | ((with_reducible apply WR.c_s (f := 228) (fn := Code.f228)); exact rfl; exact rfl; exact rfl; (first | exact rfl); (focus ((repeat' first | exact args_nil | apply args_d | exact toD_d rfl | exact all_nil | apply all_cons | exact rfl); done)); exact eqLawn_gives _ _ _) | ((with_reducible apply WR.c_s (f := 228) (fn := Code.f228)); exact rfl; exact rfl; exact rfl; (first | exact rfl); (focus ((repeat' first | exact args_nil | apply args_d | exact toD_d rfl | exact all_nil | apply all_cons | exact rfl); done)); exact eqLawn_gives _ _ _) | ((with_reducible apply WR.mv); exact rfl; exact rfl) | ((with_reducible apply WR.mvt); exact rfl; exact rfl) | ((with_reducible apply WR.ex); exact rfl; exact rfl) | ((with_reducible apply WR.nil)) | (with_reducible refine andThen_n ?_) | (with_reducible refine W.seq ?_) | (with_reducible refine W.region ?_) | (with_reducible refine W.skip ?_) | (with_reducible refine W.ret ?_) | ((with_reducible apply W.condF); exact rfl) | ((with_reducible apply Done.f); (intro hh hh2; exact (nomatch hh2)); (focus ((repeat' first | exact all_nil | apply all_cons | exact res_tmp rfl | exact rfl); done)); (focus ((repeat' first | exact all_nil | apply all_cons | exact retOf_s rfl | exact rfl); done)); exact rfl; (focus ((repeat' first | exact outs_nil | apply outs_d | exact rfl); done))) | (intro hb; try (exfalso; omega)) | ((with_reducible apply WR.lx); exact rfl; exact rfl) | ((with_reducible apply WR.al); exact rfl; (first | exact rfl)) | ((with_reducible apply WR.st); exact rfl; exact rfl; exact rfl; exact storeAll (by first | exact rfl) (by first | exact rfl)) | ((with_reducible apply WR.gtr); exact rfl; exact rfl; exact rfl) | ((with_reducible apply WR.neq); exact rfl; exact rfl; exact rfl) | ((with_reducible apply WR.un); exact rfl; exact rfl) | ((with_reducible apply WR.pk); exact rfl; exact rfl) | ((with_reducible apply WR.le); exact rfl; exact rfl)
      rfl
    · rw [readR, if_neg g] at h1 h2
      have hz := isLawn_S 0 0 (fun _ => 0) (by omega) (by omega) (fun _ _ => by omega)
      repeat' first | ((with_reducible apply WR.c_as (f := 226) (fn := Code.f226)); exact rfl; exact rfl; exact rfl; (first | exact rfl); (focus ((repeat' first | exact args_nil | apply args_d | exact toD_d rfl | exact all_nil | apply all_cons | exact rfl); done)); exact h1) | ((with_reducible apply WR.c_as (f := 227) (fn := Code.f227)); exact rfl; exact rfl; exact rfl; (first | exact rfl); (focus ((repeat' first | exact args_nil | apply args_d | exact toD_d rfl | exact all_nil | apply all_cons | exact rfl); done)); exact h2) | ((with_reducible apply WR.c_s (f := 228) (fn := Code.f228)); exact rfl; exact rfl; exact rfl; (first | exact rfl); (focus ((repeat' first | exact args_nil | apply args_d | exact toD_d rfl | exact all_nil | apply all_cons | exact rfl); done)); exact eqLawn_gives _ _ _) | ((with_reducible apply WR.c_s (f := 228) (fn := Code.f228)); exact rfl; exact rfl; exact rfl; (first | exact rfl); (focus ((repeat' first | exact args_nil | apply args_d | exact toD_d rfl | exact all_nil | apply all_cons | exact rfl); done)); exact eqLawn_gives _ _ _) | ((with_reducible apply WR.mv); exact rfl; exact rfl) | ((with_reducible apply WR.mvt); exact rfl; exact rfl) | ((with_reducible apply WR.ex); exact rfl; exact rfl) | ((with_reducible apply WR.nil)) | (with_reducible refine andThen_n ?_) | (with_reducible refine W.seq ?_) | (with_reducible refine W.region ?_) | (with_reducible refine W.skip ?_) | (with_reducible refine W.ret ?_) | ((with_reducible apply W.condF); exact rfl) | ((with_reducible apply Done.f); (intro hh hh2; exact (nomatch hh2)); (focus ((repeat' first | exact all_nil | apply all_cons | exact res_tmp rfl | exact rfl); done)); (focus ((repeat' first | exact all_nil | apply all_cons | exact retOf_s rfl | exact rfl); done)); exact rfl; (focus ((repeat' first | exact outs_nil | apply outs_d | exact rfl); done))) | (intro hb; try (exfalso; omega)) | ((with_reducible apply WR.ld); exact rfl; exact rfl; exact rfl; (first | exact loadC_all (IsLawn.len (by assumption)))) | ((with_reducible apply WR.al); exact rfl; (first | exact rfl)) | ((with_reducible apply WR.st); exact rfl; exact rfl; exact rfl; exact storeAll (by first | exact IsLawn.len (by assumption) | exact rfl) (by first | exact IsLawn.len (by assumption) | exact rfl)) | ((with_reducible apply WR.gtr); exact rfl; exact rfl; exact rfl) | ((with_reducible apply WR.neq); exact rfl; exact rfl; exact rfl) | ((with_reducible apply WR.un); exact rfl; exact rfl) | ((with_reducible apply WR.pk); exact rfl; exact rfl) | ((with_reducible apply WR.le); exact rfl; exact rfl)
      rfl
  · repeat' first | ((with_reducible apply WR.mv); exact rfl; exact rfl) | ((with_reducible apply WR.nil)) | (with_reducible refine andThen_n ?_) | (with_reducible refine andThen_r ?_) | (with_reducible refine W.seq ?_) | (with_reducible refine W.region ?_) | (with_reducible refine W.ret ?_) | ((with_reducible apply W.condT); exact rfl) | ((with_reducible apply Done.f); (intro hh hh2; exact (nomatch hh2)); (focus ((repeat' first | exact all_nil | apply all_cons | exact res_tmp rfl); done)); (focus ((repeat' first | exact all_nil | apply all_cons | exact retOf_s rfl); done)); exact rfl; (focus ((repeat' first | exact outs_nil | apply outs_d); done))) | (intro hb; try (exfalso; omega)) | ((with_reducible apply WR.gtr); exact rfl; exact rfl; exact rfl) | ((with_reducible apply WR.le); exact rfl; exact rfl)
    rfl
end Go.DM
