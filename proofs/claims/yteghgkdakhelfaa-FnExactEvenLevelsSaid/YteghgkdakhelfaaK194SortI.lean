/- slices.SortStableFunc over cells: a comparing function; the sort by insertion. -/
import Derived.Test.YteghgkdakhelfaaK194SortW
set_option linter.unusedSimpArgs false
set_option linter.unusedVariables false
set_option maxHeartbeats 4000000
namespace Go.DM
open Go.IntWalk
/-- A function value that compares cells. -/
def CmpOk (z : D) (cmp : Cel → Cel → Int) : Prop :=
  ∃ f fn post, z = .clo f [] post ∧ G f = some fn ∧ fn.muts = [] ∧ ∀ c d : Cel, InC c → InC d → Gives G f ([ac c.1 c.2, ac d.1 d.2] ++ post.map .d) (ri .i64 (cmp c d))
section
variable {dsts : Nat → Option Nat} {ops : List Oper} {Q : St → Prop} {σ : St} {g : Option (Nat × Bool)} {l1 l2 l3 l4 : List Nat}
theorem cmp_call {z : D} {cmp : Cel → Cel → Int} (hz : CmpOk z cmp) {a b c : Opd} {u v u' v' : Int} {σ : St} (ha : ev σ.env a = .a (.d z)) (hb : ev σ.env b = .a (.d (.agg [.int .i8 u, .int .i8 v]))) (hc : ev σ.env c = .a (.d (.agg [.int .i8 u', .int .i8 v']))) (h1 : InC (u, v)) (h2 : InC (u', v')) :
    ∃ f fn vs as, callee σ (.callv a [b, c]) = some (f, vs) ∧ G f = some fn ∧ mutIds fn.muts vs = [] ∧ args σ [] fn.muts vs = some as ∧ Gives G f as (ri .i64 (cmp (u, v) (u', v'))) ∧ backs σ fn.muts vs [] = some [] := by
  obtain ⟨f, fn, post, rfl, e1, e2, e3⟩ := hz
  refine ⟨f, fn, _, _, by simp [callee, ha, hb, hc]; rfl, e1, ?_, ?_, e3 _ _ h1 h2, ?_⟩
  · rw [e2]; rfl
  · rw [e2]
    have h0 : args σ [] [] (post.map fun x => V.a (.d x)) = some (post.map .d) := by
      have := args_pre σ post [] [] args_nil
      simpa using this
    exact args_d (toD_d rfl) (args_d (toD_d rfl) (by simpa using h0))
  · rw [e2]; exact backs_no
theorem WH.ccmp {z : D} {cmp : Cel → Cel → Int} (hz : CmpOk z cmp) {a b c : Opd} {u v u' v' : Int} {e : Nat} (hw : wanted dsts (kill l1 (only l3 σ)).env g = some true) (ha : ev (kill l1 (only l3 σ)).env a = .a (.d z)) (hb : ev (kill l1 (only l3 σ)).env b = .a (.d (.agg [.int .i8 u, .int .i8 v]))) (hc : ev (kill l1 (only l3 σ)).env c = .a (.d (.agg [.int .i8 u', .int .i8 v'])))
    (h1 : InC (u, v)) (h2 : InC (u', v')) (K : WH G dsts ops Q (set (some e) (.a (.d (.s (.int .i64 (cmp (u, v) (u', v')))))) σ)) : WH G dsts (⟨some e, .callv a [b, c], g, l1, l2, l3, l4⟩ :: ops) Q σ := by
  obtain ⟨f, fn, vs, as, e1, e2, e3, e4, e5, e6⟩ := cmp_call hz ha hb hc h1 h2
  refine WH.call (d := e) (v := .a (.d (.s (.int .i64 (cmp (u, v) (u', v')))))) (ps := []) (ns := []) (vs := vs) hw rfl e1 e2 (by rw [e3]; rfl) (by rw [e3]; exact e4) e5 e6 rfl rfl rfl rfl rfl rfl rfl ?_
  simp only [List.append_nil, List.map_nil, insertAll, kill_nil]
  exact K
end
theorem swap_adj {A B : List Cel} {d c : Cel} : ((A ++ d :: c :: B).set (A.length + 1) d).set A.length c = A ++ c :: d :: B := by
  rw [List.set_append_right _ _ (by omega), List.set_append_right _ _ (by omega)]
  simp
theorem gC_mid {A B : List Cel} {c : Cel} : gC (A ++ c :: B) A.length = c := by rw [gC_app, if_neg (by omega)]; simp [gC]
theorem gC_mid1 {A B : List Cel} {d c : Cel} : gC (A ++ d :: c :: B) (A.length + 1) = c := by rw [gC_app, if_neg (by omega)]; simp [gC]
variable {key : Cel → Int} {cmp : Cel → Cel → Int}
/-- What is compared ahead of what: a later cell with an elder one. -/
def Late (key : Cel → Int) (cmp : Cel → Cel → Int) (X : List Cel) : Prop := X.Pairwise fun y x => cmp x y < 0 ↔ key x < key y
/-- A cell stands at its place. -/
theorem ins_at {X S1 S2 : List Cel} {c : Cel} {t : Nat} (hD : Dis key X) (ht : X.take (t + 1) = X.take t ++ [c]) (hS : S1 ++ S2 = srt key (X.take t)) (h1 : ∀ x ∈ S1, key x < key c) (h2 : ∀ x ∈ S2, key c < key x) : S1 ++ c :: S2 = srt key (X.take (t + 1)) := by
  have hD1 : Dis key (X.take (t + 1)) := hD.sublist (List.take_sublist ..)
  have hD0 : Dis key (X.take t) := hD.sublist (List.take_sublist ..)
  have hs := srt_srt hD0
  rw [← hS] at hs
  obtain ⟨a1, a2, a3⟩ := List.pairwise_append.1 hs
  refine srt_eq (List.pairwise_append.2 ⟨a1, List.pairwise_cons.2 ⟨h2, a2⟩, fun a ha b hb => ?_⟩) hD1 fun x => ?_
  · rcases List.mem_cons.1 hb with rfl | hb
    · exact h1 a ha
    · exact a3 a ha b hb
  · have hm : x ∈ S1 ++ S2 ↔ x ∈ X.take t := by rw [hS]; exact srt_mem
    rw [ht, List.mem_append, List.mem_append (s := List.take t X), List.mem_singleton, ← hm, List.mem_append, List.mem_cons]
    constructor
    · rintro (h | h | h)
      · exact .inl (.inl h)
      · exact .inr h
      · exact .inl (.inr h)
    · rintro ((h | h) | h)
      · exact .inl h
      · exact .inr (.inr h)
      · exact .inr (.inl h)
theorem insertion_gives (P X Q : List Cel) (z : D) (hz : CmpOk z cmp) (hD : Dis key X) (hL : Late key cmp X) (h9 : ∀ c ∈ X, InC c) (hN : (P ++ X ++ Q).length ≤ 100) :
    Gives G 212 [.ms (P ++ X ++ Q).length 2 (encC (P ++ X ++ Q)), ai .i64 (P.length : Nat), ai .i64 ((P.length + X.length : Nat)), .d z] ⟨[], [encC (P ++ srt key X ++ Q)]⟩ := by
  have hlen : (P ++ X ++ Q).length = P.length + X.length + Q.length := by simp only [List.length_append]
  have hTl : (P ++ srt key X ++ Q).length = P.length + X.length + Q.length := by simp only [List.length_append, srt_len]
  have h0 : P ++ X ++ Q = P ++ srt key (X.take 1) ++ X.drop 1 ++ Q := by
    cases X <;> simp [srt, ins]
  generalize hN0 : (P ++ X ++ Q).length = N at hN hlen ⊢
  refine Gives.by rfl rfl (W.seq ?_)
  repeat' first | ((with_reducible apply WR.mv); exact rfl; exact rfl) | ((with_reducible apply WR.nil)) | (with_reducible refine andThen_n ?_) | (with_reducible refine W.region ?_) | (with_reducible refine W.block ?_) | ((with_reducible apply WR.ad); exact rfl; exact rfl; exact rfl; (first | exact i64_in _ (by omega)))
  (refine (?_ : W _ (Code.loop _) _ _))
  (refine W.loopM [0, 1, 2, 3] [] [32, 1032, 2032, 3032, 4032] (fun zz : (Nat) × (List Cel) => match zz with | (t, m) => (X.length + 1 - t : Nat)) (fun zz : (Nat) × (List Cel) => match zz with | (t, m) => (1 ≤ t ∧ t ≤ X.length + 1 ∧ m.length = N ∧ m = P ++ srt key (X.take t) ++ X.drop t ++ Q : Prop)) (fun zz : (Nat) × (List Cel) => match zz with | (t, m) => [(8, .a (.d (.s (.int .i64 ((P.length + t : Nat))))))]) (fun zz : (Nat) × (List Cel) => match zz with | (t, m) => [(0, .flat true (encC m))]) (1, P ++ X ++ Q) (⟨by omega, by omega, hN0, h0⟩) ⟨rfl, trivial⟩ ⟨rfl, trivial⟩ ⟨(by (repeat' first | exact rfl | assumption | (with_reducible apply noPar_set) | ((with_reducible apply noPar_puto); exact rfl) | (with_reducible apply noPar_put) | (with_reducible apply noPar_putv) | (with_reducible apply noPar_kill) | ((with_reducible apply noPar_mix); exact rfl) | ((with_reducible apply noPar_mixT); exact rfl)); done), (by (repeat' first | exact rfl | assumption | (with_reducible apply noPar_set) | ((with_reducible apply noPar_puto); exact rfl) | (with_reducible apply noPar_put) | (with_reducible apply noPar_putv) | (with_reducible apply noPar_kill) | ((with_reducible apply noPar_mix); exact rfl) | ((with_reducible apply noPar_mixT); exact rfl)); done), (by (repeat' first | exact rfl | assumption | (with_reducible apply noPar_set) | ((with_reducible apply noPar_puto); exact rfl) | (with_reducible apply noPar_put) | (with_reducible apply noPar_putv) | (with_reducible apply noPar_kill) | ((with_reducible apply noPar_mix); exact rfl) | ((with_reducible apply noPar_mixT); exact rfl)); done), (by (repeat' first | exact rfl | assumption | (with_reducible apply noPar_set) | ((with_reducible apply noPar_puto); exact rfl) | (with_reducible apply noPar_put) | (with_reducible apply noPar_putv) | (with_reducible apply noPar_kill) | ((with_reducible apply noPar_mix); exact rfl) | ((with_reducible apply noPar_mixT); exact rfl)); done), (by (repeat' first | exact rfl | assumption | (with_reducible apply noPar_set) | ((with_reducible apply noPar_puto); exact rfl) | (with_reducible apply noPar_put) | (with_reducible apply noPar_putv) | (with_reducible apply noPar_kill) | ((with_reducible apply noPar_mix); exact rfl) | ((with_reducible apply noPar_mixT); exact rfl)); done), trivial⟩ ?_)
  rintro ⟨t, m⟩ σ hP hN; dsimp only [setL, putL] at hP ⊢; obtain ⟨n32, hN⟩ := hN; obtain ⟨n1032, hN⟩ := hN; obtain ⟨n2032, hN⟩ := hN; obtain ⟨n3032, hN⟩ := hN; obtain ⟨n4032, hN⟩ := hN
  obtain ⟨ht1, ht2, hml, hm⟩ := hP
  by_cases htl : t < X.length
  · have hst : X.take (t + 1) = X.take t ++ [gC X t] := by rw [List.take_add_one, gC_get htl]; rfl
    have hdr : X.drop t = gC X t :: X.drop (t + 1) := by
      rw [List.drop_eq_getElem_cons htl]
      congr 1
      have := gC_get htl
      rw [List.getElem?_eq_getElem htl] at this
      exact Option.some.inj this
    have hcm : gC X t ∈ X := gC_mem htl
    have hlate : ∀ d ∈ X.take t, (cmp (gC X t) d < 0 ↔ key (gC X t) < key d) ∧ key d ≠ key (gC X t) := fun d hd => by
      have e1 : Late key cmp (X.take t ++ [gC X t]) := by rw [← hst]; exact hL.sublist (List.take_sublist ..)
      have e2 : Dis key (X.take t ++ [gC X t]) := by rw [← hst]; exact hD.sublist (List.take_sublist ..)
      exact ⟨(List.pairwise_append.1 e1).2.2 d hd _ (by simp), (List.pairwise_append.1 e2).2.2 d hd _ (by simp)⟩
    have hSl : (srt key (X.take t)).length = t := by rw [srt_len, List.length_take]; omega
    have hins := fun S1 S2 => ins_at (X := X) (S1 := S1) (S2 := S2) (c := gC X t) (t := t) hD hst
    have h9c := h9 _ hcm
    have h9S : ∀ d ∈ srt key (X.take t), InC d := fun d hd => h9 d (List.mem_of_mem_take (srt_mem.1 hd))
    have hlS : ∀ d ∈ srt key (X.take t), (cmp (gC X t) d < 0 ↔ key (gC X t) < key d) ∧ key d ≠ key (gC X t) := fun d hd => hlate d (srt_mem.1 hd)
    have hsS : Srt key (srt key (X.take t)) := srt_srt (hD.sublist (List.take_sublist ..))
    rw [hdr] at hm
    clear hlate hst hdr
    generalize gC X t = c at hm hcm hins h9c hlS
    generalize srt key (X.take t) = S at hm hSl hins h9S hlS hsS
    have hm' : m = P ++ S ++ c :: ([] ++ (X.drop (t + 1) ++ Q)) := by rw [hm]; simp
    clear hm
    generalize hR : X.drop (t + 1) ++ Q = R at hm'
    repeat' first | ((with_reducible apply WR.mv); exact rfl; exact rfl) | ((with_reducible apply WR.nil)) | (with_reducible refine andThen_n ?_) | (with_reducible refine W.seq ?_) | (with_reducible refine W.region ?_) | (with_reducible refine W.skip ?_) | (with_reducible refine W.block ?_) | ((with_reducible apply W.condT); exact rfl) | (intro hb; try (exfalso; omega)) | ((with_reducible apply WR.lss); exact rfl; exact rfl; exact rfl)
    (refine (?_ : W _ (Code.loop _) _ _))
    (refine W.loopM [0, 1, 2, 3, 8] [] [32, 1032, 2032, 3032, 4032] (fun zz : (Int) × (List Cel) × (List Cel) × (List Cel) => match zz with | (x, m, S1, S2) => (S1.length : Nat)) (fun zz : (Int) × (List Cel) × (List Cel) × (List Cel) => match zz with | (x, m, S1, S2) => (x = ((P.length + S1.length : Nat)) ∧ m.length = N ∧ S1 ++ S2 = S ∧ (∀ d ∈ S2, key c < key d) ∧ m = P ++ S1 ++ c :: (S2 ++ R) : Prop)) (fun zz : (Int) × (List Cel) × (List Cel) × (List Cel) => match zz with | (x, m, S1, S2) => [(9, .a (.d (.s (.int .i64 x))))]) (fun zz : (Int) × (List Cel) × (List Cel) × (List Cel) => match zz with | (x, m, S1, S2) => [(0, .flat true (encC m))]) (((P.length + t : Nat)), m, S, []) (⟨by rw [hSl], hml, by simp, fun d hd => by simp at hd, hm'⟩) ⟨rfl, trivial⟩ ⟨rfl, trivial⟩ ⟨(by (repeat' first | exact rfl | assumption | (with_reducible apply noPar_set) | ((with_reducible apply noPar_puto); exact rfl) | (with_reducible apply noPar_put) | (with_reducible apply noPar_putv) | (with_reducible apply noPar_kill) | ((with_reducible apply noPar_mix); exact rfl) | ((with_reducible apply noPar_mixT); exact rfl)); done), (by (repeat' first | exact rfl | assumption | (with_reducible apply noPar_set) | ((with_reducible apply noPar_puto); exact rfl) | (with_reducible apply noPar_put) | (with_reducible apply noPar_putv) | (with_reducible apply noPar_kill) | ((with_reducible apply noPar_mix); exact rfl) | ((with_reducible apply noPar_mixT); exact rfl)); done), (by (repeat' first | exact rfl | assumption | (with_reducible apply noPar_set) | ((with_reducible apply noPar_puto); exact rfl) | (with_reducible apply noPar_put) | (with_reducible apply noPar_putv) | (with_reducible apply noPar_kill) | ((with_reducible apply noPar_mix); exact rfl) | ((with_reducible apply noPar_mixT); exact rfl)); done), (by (repeat' first | exact rfl | assumption | (with_reducible apply noPar_set) | ((with_reducible apply noPar_puto); exact rfl) | (with_reducible apply noPar_put) | (with_reducible apply noPar_putv) | (with_reducible apply noPar_kill) | ((with_reducible apply noPar_mix); exact rfl) | ((with_reducible apply noPar_mixT); exact rfl)); done), (by (repeat' first | exact rfl | assumption | (with_reducible apply noPar_set) | ((with_reducible apply noPar_puto); exact rfl) | (with_reducible apply noPar_put) | (with_reducible apply noPar_putv) | (with_reducible apply noPar_kill) | ((with_reducible apply noPar_mix); exact rfl) | ((with_reducible apply noPar_mixT); exact rfl)); done), trivial⟩ ?_)
    rintro ⟨x, m, S1, S2⟩ σ hP hN; dsimp only [setL, putL] at hP ⊢; obtain ⟨n32, hN⟩ := hN; obtain ⟨n1032, hN⟩ := hN; obtain ⟨n2032, hN⟩ := hN; obtain ⟨n3032, hN⟩ := hN; obtain ⟨n4032, hN⟩ := hN
    clear hm' hml
    obtain ⟨hx, hml, hS, h2, hm⟩ := hP
    by_cases hne : S1 = []
    · subst hne
      simp only [List.length_nil, Nat.add_zero] at hx
      repeat' first | ((with_reducible apply WH.mv); exact rfl; exact rfl; exact rfl) | ((with_reducible apply WR.mv); exact rfl; exact rfl) | ((with_reducible apply WH.off); exact rfl) | ((with_reducible apply WR.nil)) | (with_reducible refine andThen_n ?_) | (with_reducible refine andThen_x ?_) | (with_reducible refine inB_n ?_) | (with_reducible refine inB_x ?_) | (with_reducible refine W.seq ?_) | (with_reducible refine W.region ?_) | (with_reducible refine W.exit ?_) | ((with_reducible apply W.condF); exact rfl) | ((with_reducible apply WH.nil)) | (with_reducible refine W.draw ?_) | (intro hb; try (exfalso; omega)) | ((with_reducible apply WR.ad); exact rfl; exact rfl; exact rfl; (first | exact i64_in _ (by omega))) | ((with_reducible apply WH.gtr); exact rfl; exact rfl; exact rfl) | ((with_reducible apply WH.pk); exact rfl; exact rfl; exact rfl)
      all_goals try (exfalso; omega)
      (refine W.nxt ((t + 1, m)) (by first | omega | (dsimp only; omega)) ?_ ⟨rfl, trivial⟩ ⟨rfl, trivial⟩ ⟨rfl, rfl, rfl, rfl, trivial⟩ trivial ⟨(by (repeat' first | exact rfl | assumption | (with_reducible apply noPar_set) | ((with_reducible apply noPar_puto); exact rfl) | (with_reducible apply noPar_put) | (with_reducible apply noPar_putv) | (with_reducible apply noPar_kill) | ((with_reducible apply noPar_mix); exact rfl) | ((with_reducible apply noPar_mixT); exact rfl)); done), (by (repeat' first | exact rfl | assumption | (with_reducible apply noPar_set) | ((with_reducible apply noPar_puto); exact rfl) | (with_reducible apply noPar_put) | (with_reducible apply noPar_putv) | (with_reducible apply noPar_kill) | ((with_reducible apply noPar_mix); exact rfl) | ((with_reducible apply noPar_mixT); exact rfl)); done), (by (repeat' first | exact rfl | assumption | (with_reducible apply noPar_set) | ((with_reducible apply noPar_puto); exact rfl) | (with_reducible apply noPar_put) | (with_reducible apply noPar_putv) | (with_reducible apply noPar_kill) | ((with_reducible apply noPar_mix); exact rfl) | ((with_reducible apply noPar_mixT); exact rfl)); done), (by (repeat' first | exact rfl | assumption | (with_reducible apply noPar_set) | ((with_reducible apply noPar_puto); exact rfl) | (with_reducible apply noPar_put) | (with_reducible apply noPar_putv) | (with_reducible apply noPar_kill) | ((with_reducible apply noPar_mix); exact rfl) | ((with_reducible apply noPar_mixT); exact rfl)); done), (by (repeat' first | exact rfl | assumption | (with_reducible apply noPar_set) | ((with_reducible apply noPar_puto); exact rfl) | (with_reducible apply noPar_put) | (with_reducible apply noPar_putv) | (with_reducible apply noPar_kill) | ((with_reducible apply noPar_mix); exact rfl) | ((with_reducible apply noPar_mixT); exact rfl)); done), trivial⟩); (try dsimp only)
      refine ⟨by omega, by omega, hml, ?_⟩
      rw [← hins [] S2 hS (fun x hx => by simp at hx) h2, hm, ← hR]; simp
    · obtain ⟨S1', d, rfl⟩ : ∃ S1' d, S1 = S1' ++ [d] := ⟨_, _, (List.dropLast_concat_getLast hne).symm⟩
      have hdS : d ∈ S := by rw [← hS]; simp
      obtain ⟨hcd, hnd⟩ := hlS d hdS
      have hd9 := h9S d hdS
      have hx' : x = ((P.length + S1'.length + 1 : Nat)) := by rw [hx, List.length_append]; rfl
      have hm2 : m = (P ++ S1') ++ d :: c :: (S2 ++ R) := by rw [hm]; simp
      have hpl : (P ++ S1').length = P.length + S1'.length := List.length_append
      have hxn : x.toNat = (P ++ S1').length + 1 := by omega
      have hxn1 : (x - 1).toNat = (P ++ S1').length := by omega
      have hk1 : gC m x.toNat = c := by rw [hm2, hxn]; exact gC_mid1
      have hk2 : gC m (x - 1).toNat = d := by rw [hm2, hxn1]; exact gC_mid
      have hmlen : m.length = P.length + S1'.length + 2 + S2.length + R.length := by rw [hm2]; simp only [List.length_append, List.length_cons]; omega
      have hI1 : InC ((gC m x.toNat).1, (gC m x.toNat).2) := by show InC (gC m x.toNat); rw [hk1]; exact h9c
      have hI2 : InC ((gC m (x - 1).toNat).1, (gC m (x - 1).toNat).2) := by show InC (gC m (x - 1).toNat); rw [hk2]; exact hd9
      by_cases hlt : key c < key d
      · have hc0 : cmp ((gC m x.toNat).1, (gC m x.toNat).2) ((gC m (x - 1).toNat).1, (gC m (x - 1).toNat).2) < 0 := by
          show cmp (gC m x.toNat) (gC m (x - 1).toNat) < 0
          rw [hk1, hk2]; exact hcd.2 hlt
        repeat' first | ((with_reducible apply WH.ccmp hz); exact rfl; exact rfl; exact rfl; exact rfl; exact hI1; exact hI2) | ((with_reducible apply WH.mv); exact rfl; exact rfl; exact rfl) | ((with_reducible apply WR.mv); exact rfl; exact rfl) | ((with_reducible apply WH.is); exact rfl; exact rfl; exact rfl; omega; exact rfl) | ((with_reducible apply WH.ld); exact rfl; exact rfl; exact rfl; (first | exact ldC (by first | omega | (simp only [List.length_set, List.length_append, List.length_cons, List.length_nil]; omega))); exact rfl) | ((with_reducible apply WR.nil)) | (with_reducible refine andThen_n ?_) | (with_reducible refine inB_n ?_) | (with_reducible refine W.seq ?_) | (with_reducible refine W.region ?_) | (with_reducible refine W.skip ?_) | (with_reducible refine W.block ?_) | ((with_reducible apply W.condT); exact rfl) | ((with_reducible apply WH.sb); exact rfl; exact rfl; exact rfl; (first | exact i64_in _ (by omega))) | ((with_reducible apply WH.nil)) | (with_reducible refine W.draw ?_) | (intro hb; try (exfalso; omega)) | ((with_reducible apply WH.st); exact rfl; exact rfl; exact rfl; exact stC (by first | omega | (simp only [List.length_set, List.length_append, List.length_cons, List.length_nil]; omega)); exact rfl; exact rfl) | ((with_reducible apply WR.sb); exact rfl; exact rfl; exact rfl; (first | exact i64_in _ (by omega))) | ((with_reducible apply WH.lss); exact rfl; exact rfl; exact rfl) | ((with_reducible apply WH.gtr); exact rfl; exact rfl; exact rfl) | ((with_reducible apply WH.pk); exact rfl; exact rfl; exact rfl)
        all_goals try (exfalso; omega)
        (refine W.nxt ((x - 1, (m.set x.toNat (gC m (x - 1).toNat)).set (x - 1).toNat (gC m x.toNat), S1', d :: S2)) (by first | omega | (dsimp only; omega)) ?_ ⟨rfl, trivial⟩ ⟨rfl, trivial⟩ ⟨rfl, rfl, rfl, rfl, rfl, trivial⟩ trivial ⟨(by (repeat' first | exact rfl | assumption | (with_reducible apply noPar_set) | ((with_reducible apply noPar_puto); exact rfl) | (with_reducible apply noPar_put) | (with_reducible apply noPar_putv) | (with_reducible apply noPar_kill) | ((with_reducible apply noPar_mix); exact rfl) | ((with_reducible apply noPar_mixT); exact rfl)); done), (by (repeat' first | exact rfl | assumption | (with_reducible apply noPar_set) | ((with_reducible apply noPar_puto); exact rfl) | (with_reducible apply noPar_put) | (with_reducible apply noPar_putv) | (with_reducible apply noPar_kill) | ((with_reducible apply noPar_mix); exact rfl) | ((with_reducible apply noPar_mixT); exact rfl)); done), (by (repeat' first | exact rfl | assumption | (with_reducible apply noPar_set) | ((with_reducible apply noPar_puto); exact rfl) | (with_reducible apply noPar_put) | (with_reducible apply noPar_putv) | (with_reducible apply noPar_kill) | ((with_reducible apply noPar_mix); exact rfl) | ((with_reducible apply noPar_mixT); exact rfl)); done), (by (repeat' first | exact rfl | assumption | (with_reducible apply noPar_set) | ((with_reducible apply noPar_puto); exact rfl) | (with_reducible apply noPar_put) | (with_reducible apply noPar_putv) | (with_reducible apply noPar_kill) | ((with_reducible apply noPar_mix); exact rfl) | ((with_reducible apply noPar_mixT); exact rfl)); done), (by (repeat' first | exact rfl | assumption | (with_reducible apply noPar_set) | ((with_reducible apply noPar_puto); exact rfl) | (with_reducible apply noPar_put) | (with_reducible apply noPar_putv) | (with_reducible apply noPar_kill) | ((with_reducible apply noPar_mix); exact rfl) | ((with_reducible apply noPar_mixT); exact rfl)); done), trivial⟩); (try dsimp only)
        refine ⟨by omega, by rw [List.length_set, List.length_set]; exact hml, by rw [← hS]; simp, fun e he => ?_, ?_⟩
        · rcases List.mem_cons.1 he with rfl | he
          · exact hlt
          · exact h2 e he
        · rw [hk1, hk2, hm2, hxn, hxn1, swap_adj]; simp
      · have hc0 : ¬ cmp ((gC m x.toNat).1, (gC m x.toNat).2) ((gC m (x - 1).toNat).1, (gC m (x - 1).toNat).2) < 0 := by
          show ¬ cmp (gC m x.toNat) (gC m (x - 1).toNat) < 0
          rw [hk1, hk2]; exact fun hh => hlt (hcd.1 hh)
        repeat' first | ((with_reducible apply WH.ccmp hz); exact rfl; exact rfl; exact rfl; exact rfl; exact hI1; exact hI2) | ((with_reducible apply WH.mv); exact rfl; exact rfl; exact rfl) | ((with_reducible apply WR.mv); exact rfl; exact rfl) | ((with_reducible apply WH.is); exact rfl; exact rfl; exact rfl; omega; exact rfl) | ((with_reducible apply WH.ld); exact rfl; exact rfl; exact rfl; (first | exact ldC (by first | omega)); exact rfl) | ((with_reducible apply WR.nil)) | (with_reducible refine andThen_n ?_) | (with_reducible refine andThen_x ?_) | (with_reducible refine inB_n ?_) | (with_reducible refine inB_x ?_) | (with_reducible refine W.seq ?_) | (with_reducible refine W.region ?_) | (with_reducible refine W.exit ?_) | ((with_reducible apply W.condF); exact rfl) | ((with_reducible apply WH.sb); exact rfl; exact rfl; exact rfl; (first | exact i64_in _ (by omega))) | ((with_reducible apply WH.nil)) | (with_reducible refine W.draw ?_) | (intro hb; try (exfalso; omega)) | ((with_reducible apply WR.ad); exact rfl; exact rfl; exact rfl; (first | exact i64_in _ (by omega))) | ((with_reducible apply WH.lss); exact rfl; exact rfl; exact rfl) | ((with_reducible apply WH.gtr); exact rfl; exact rfl; exact rfl) | ((with_reducible apply WH.pk); exact rfl; exact rfl; exact rfl)
        all_goals try (exfalso; omega)
        (refine W.nxt ((t + 1, m)) (by first | omega | (dsimp only; omega)) ?_ ⟨rfl, trivial⟩ ⟨rfl, trivial⟩ ⟨rfl, rfl, rfl, rfl, trivial⟩ trivial ⟨(by (repeat' first | exact rfl | assumption | (with_reducible apply noPar_set) | ((with_reducible apply noPar_puto); exact rfl) | (with_reducible apply noPar_put) | (with_reducible apply noPar_putv) | (with_reducible apply noPar_kill) | ((with_reducible apply noPar_mix); exact rfl) | ((with_reducible apply noPar_mixT); exact rfl)); done), (by (repeat' first | exact rfl | assumption | (with_reducible apply noPar_set) | ((with_reducible apply noPar_puto); exact rfl) | (with_reducible apply noPar_put) | (with_reducible apply noPar_putv) | (with_reducible apply noPar_kill) | ((with_reducible apply noPar_mix); exact rfl) | ((with_reducible apply noPar_mixT); exact rfl)); done), (by (repeat' first | exact rfl | assumption | (with_reducible apply noPar_set) | ((with_reducible apply noPar_puto); exact rfl) | (with_reducible apply noPar_put) | (with_reducible apply noPar_putv) | (with_reducible apply noPar_kill) | ((with_reducible apply noPar_mix); exact rfl) | ((with_reducible apply noPar_mixT); exact rfl)); done), (by (repeat' first | exact rfl | assumption | (with_reducible apply noPar_set) | ((with_reducible apply noPar_puto); exact rfl) | (with_reducible apply noPar_put) | (with_reducible apply noPar_putv) | (with_reducible apply noPar_kill) | ((with_reducible apply noPar_mix); exact rfl) | ((with_reducible apply noPar_mixT); exact rfl)); done), (by (repeat' first | exact rfl | assumption | (with_reducible apply noPar_set) | ((with_reducible apply noPar_puto); exact rfl) | (with_reducible apply noPar_put) | (with_reducible apply noPar_putv) | (with_reducible apply noPar_kill) | ((with_reducible apply noPar_mix); exact rfl) | ((with_reducible apply noPar_mixT); exact rfl)); done), trivial⟩); (try dsimp only)
        refine ⟨by omega, by omega, hml, ?_⟩
        rw [← hins (S1' ++ [d]) S2 hS (fun e he => ?_) h2, hm, ← hR]
        · simp
        · rw [← hS] at hsS
          have h3 := (List.pairwise_append.1 (List.pairwise_append.1 hsS).1).2.2
          rw [List.mem_append, List.mem_singleton] at he
          rcases he with he | rfl
          · have := h3 e he d (by simp); omega
          · omega
  · have e1 : X.take t = X := List.take_of_length_le (by omega)
    have e2 : X.drop t = [] := List.drop_eq_nil_of_le (by omega)
    rw [e1, e2, List.append_nil] at hm
    have hsl : (srt key X).length = X.length := srt_len
    subst hm
    repeat' first | ((with_reducible apply WR.mv); exact rfl; exact rfl) | ((with_reducible apply WR.nil)) | (with_reducible refine andThen_n ?_) | (with_reducible refine andThen_x ?_) | (with_reducible refine inB_x ?_) | (with_reducible refine W.seq ?_) | (with_reducible refine W.region ?_) | (with_reducible refine W.exit ?_) | ((with_reducible apply W.condF); exact rfl) | ((with_reducible apply Done.f); (intro hh hh2; exact (nomatch hh2)); (focus ((repeat' first | exact all_nil); done)); (focus ((repeat' first | exact all_nil); done)); exact rfl; (focus ((repeat' first | exact outs_nil | apply outs_d | (apply outs_ms; exact rfl; exact (by first | (simp only [grid_len, gridB_len, encC_length, encI_length, List.length_set, List.length_append, List.length_cons, List.length_nil]; omega)))); done))) | (intro hb; try (exfalso; omega)) | ((with_reducible apply WR.lss); exact rfl; exact rfl; exact rfl)
    all_goals first
      | (exfalso; omega)
      | rfl
end Go.DM
