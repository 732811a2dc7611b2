/- The way home: both sides, the statement. -/
import Derived.Test.YtadlffkjghjciaaGreatDoorK380Whole
import Derived.Test.YtadlffkjghjciaaGreatDoorK380Text
import Derived.Test.YtadlffkjghjciaaGreatDoorK380Steps
import Derived.Test.YtadlffkjghjciaaGreatDoorK380Way
set_option linter.unusedSectionVars false
set_option linter.unusedSimpArgs false
set_option linter.unusedVariables false
set_option maxHeartbeats 4000000
namespace Go.DM
variable [Tok]
open Go.IntWalk
variable {w h : Int} {g : Nat → Int} {cs : List S}
theorem visit_keep {ok : Cel → Prop} [DecidablePred ok] {c : Cel} {k : Nat} : ∀ (L : List Cel) (s : (Nat → Int) × List Cel), 0 ≤ s.1 k → (L.foldl (visit ok c) s).1 k = s.1 k
  | [], s, _ => rfl
  | e :: r, s, h0 => by
    have h1 : (visit ok c s e).1 k = s.1 k := by
      unfold visit; split
      · rename_i hh; simp only [gset]; rw [if_neg]; intro e2; rw [e2] at h0; omega
      · rfl
    rw [List.foldl_cons, visit_keep r _ (by omega), h1]
theorem bfs_keep {ok : Cel → Prop} [DecidablePred ok] {k : Nat} : ∀ (n : Nat) (s : (Nat → Int) × List Cel), 0 ≤ s.1 k → bfs ok n s k = s.1 k
  | 0, s, _ => rfl
  | n + 1, (d, []), _ => rfl
  | n + 1, (d, c :: r), h0 => by
    have h1 := visit_keep (ok := ok) (c := c) (k := k) (Near c.1 c.2) (d, r) h0
    show bfs ok n _ k = d k
    rw [bfs_keep n _ (by rw [h1]; exact h0), h1]
def Pred (w h : Int) (c0 : Cel) (d : Nat → Int) : Prop := ∀ e, Has w h e.1 e.2 → 0 ≤ d (ix e) → e = c0 ∨ ∃ p ∈ Near e.1 e.2, Has w h p.1 p.2 ∧ 0 ≤ d (ix p) ∧ d (ix e) = d (ix p) + 1
theorem near_sym {a b : Cel} (h : a ∈ Near b.1 b.2) : b ∈ Near a.1 a.2 := by
  simp only [Near, List.mem_cons, List.not_mem_nil, or_false] at h ⊢
  rcases h with rfl | rfl | rfl | rfl
  · refine .inr (.inr (.inr ?_)); exact Prod.ext rfl (by simp)
  · refine .inr (.inr (.inl ?_)); exact Prod.ext (by simp) rfl
  · refine .inr (.inl ?_); exact Prod.ext (by simp) rfl
  · refine .inl ?_; exact Prod.ext rfl (by simp)
theorem visit_pred {ok : Cel → Prop} [DecidablePred ok] (hs : w ≤ 10 ∧ h ≤ 10) (hok : ∀ e, ok e → Has w h e.1 e.2) {c0 c : Cel} (hc : Has w h c.1 c.2) : ∀ (L : List Cel) (s : (Nat → Int) × List Cel), (∀ e ∈ L, e ∈ Near c.1 c.2) → 0 ≤ s.1 (ix c) → Pred w h c0 s.1 → Pred w h c0 (L.foldl (visit ok c) s).1
  | [], s, _, _, b => b
  | a :: r, s, hL, h0, b => by
    rw [List.foldl_cons]
    have h1 := visit_keep (ok := ok) (c := c) (k := ix c) [a] s h0
    refine visit_pred hs hok hc r _ (fun e he => hL e (List.mem_cons_of_mem _ he)) (by simp only [List.foldl_cons, List.foldl_nil] at h1; omega) ?_
    unfold visit
    split
    · rename_i hh
      show Pred w h c0 (gset s.1 (ix a) (s.1 (ix c) + 1))
      intro e he h2
      have hne : ∀ k, 0 ≤ s.1 k → gset s.1 (ix a) (s.1 (ix c) + 1) k = s.1 k := fun k hk => by
        simp only [gset]; rw [if_neg]; intro e2; rw [e2] at hk; omega
      by_cases hea : e = a
      · subst hea
        refine .inr ⟨c, near_sym (hL e (List.mem_cons_self ..)), hc, by rw [hne _ h0]; exact h0, ?_⟩
        rw [hne _ h0]; simp [gset]
      · have hix : ix e ≠ ix a := fun e2 => hea (ix_inj hs he (hok a hh.1) e2)
        have h3 : gset s.1 (ix a) (s.1 (ix c) + 1) (ix e) = s.1 (ix e) := by simp only [gset]; rw [if_neg hix]
        rw [h3] at h2 ⊢
        rcases b e he h2 with h4 | ⟨p, hp, hp1, hp2, hp3⟩
        · exact .inl h4
        · exact .inr ⟨p, hp, hp1, by rw [hne _ hp2]; exact hp2, by rw [hne _ hp2]; exact hp3⟩
    · exact b
theorem bfs_pred {ok : Cel → Prop} [DecidablePred ok] (hs : w ≤ 10 ∧ h ≤ 10) (hok : ∀ e, ok e → Has w h e.1 e.2) {c0 : Cel} : ∀ (n : Nat) {s : (Nat → Int) × List Cel}, BInv w h s.1 s.2 → Pred w h c0 s.1 → Pred w h c0 (bfs ok n s)
  | 0, s, _, b => b
  | n + 1, (d, []), _, b => b
  | n + 1, (d, c :: r), i, b => by
    have hc := i.q c (List.mem_cons_self ..)
    have h1 := fold_inv hs hok (Near c.1 c.2) (s := (d, r)) i
    exact bfs_pred hs hok n ⟨h1.lo, h1.hi, fun a ha => h1.q a (List.mem_cons_of_mem _ ha), by have := h1.len; rw [List.length_cons] at this; omega⟩ (visit_pred hs hok hc.1 (Near c.1 c.2) (d, r) (fun e he => he) hc.2 b)
theorem steps_home {c : Cel} : steps w h g c (ix c) = 0 := by
  show bfs _ 100 _ (ix c) = 0
  rw [bfs_keep _ _ (by simp [gset])]; simp [gset]
theorem steps_pred (hs : w ≤ 10 ∧ h ≤ 10) {c : Cel} (hc : Has w h c.1 c.2) : Pred w h c (steps w h g c) := by
  refine bfs_pred hs (fun e he => he.1) 100 (BInv.first hs hc).1 ?_
  intro e he h0
  simp only [gset] at h0
  split at h0
  · rename_i h2; exact .inl (ix_inj hs he hc h2)
  · omega
def nextP (w h : Int) (d : Nat → Int) (c e : Cel) : Prop := Has w h e.1 e.2 ∧ d (ix e) = d (ix c) - 1
instance (w h : Int) (d : Nat → Int) (c : Cel) : DecidablePred (nextP w h d c) := fun e => inferInstanceAs (Decidable (_ ∧ _))
def nextH (w h : Int) (d : Nat → Int) (c : Cel) : Option Cel := (Near c.1 c.2).find? fun e => decide (nextP w h d c e)
def homeP (w h : Int) (d : Nat → Int) : Nat → Cel → List Cel
  | 0, _ => []
  | n + 1, c => match nextH w h d c with
    | some e => e :: homeP w h d n e
    | none => []
theorem find_first {α : Type} {p : α → Bool} : ∀ {l : List α} {j : Nat} {e : α}, l[j]? = some e → p e = true → (∀ x ∈ l.take j, p x = false) → l.find? p = some e
  | [], j, e, h, _, _ => by simp at h
  | x :: r, 0, e, h, hp, _ => by simp at h; subst h; simp [hp]
  | x :: r, j + 1, e, h, hp, hn => by
    have h1 := hn x (by simp)
    rw [List.find?_cons, h1]
    exact find_first (by simpa using h) hp fun y hy => hn y (by rw [List.take_succ_cons]; exact List.mem_cons_of_mem _ hy)
structure Homes (w h : Int) (g : Nat → Int) (c0 : Cel) (d : Nat → Int) : Prop where
  home : d (ix c0) = 0
  pred : Pred w h c0 d
  b : ∀ k, -1 ≤ d k ∧ d k ≤ 100
  op : ∀ e, Has w h e.1 e.2 → 0 ≤ d (ix e) → Opn w h g e.1 e.2
theorem steps_homes (hs : w ≤ 10 ∧ h ≤ 10) {c : Cel} (hc : Opn w h g c.1 c.2) : Homes w h g c (steps w h g c) := ⟨steps_home, steps_pred hs hc.1, steps_b hs hc.1, fun _ he h0 => steps_open hs hc he h0⟩
theorem Homes.next {c0 c : Cel} {d : Nat → Int} (H : Homes w h g c0 d) (hc : Has w h c.1 c.2) (h0 : 0 ≤ d (ix c)) (hne : c ≠ c0) : 1 ≤ d (ix c) ∧ ∃ p ∈ Near c.1 c.2, nextP w h d c p := by
  rcases H.pred c hc h0 with h1 | ⟨p, hp, h1, h2, h3⟩
  · exact absurd h1 hne
  · exact ⟨by omega, p, hp, h1, by omega⟩
theorem homeP_step {d : Nat → Int} {c e : Cel} (h1 : 1 ≤ d (ix c)) (hn : nextH w h d c = some e) (he : d (ix e) = d (ix c) - 1) : homeP w h d (d (ix c)).toNat c = e :: homeP w h d (d (ix e)).toNat e := by
  rw [show (d (ix c)).toNat = (d (ix e)).toNat + 1 by omega, homeP, hn]
def wayHome (w h : Int) (g : Nat → Int) (a home : Cel) : List Cel := [a] ++ homeP w h (steps w h g home) (steps w h g home (ix a)).toNat a
theorem homeward_gives (l : IsLawn w h g cs) (hs : 1 ≤ w ∧ w ≤ 10 ∧ 1 ≤ h ∧ h ≤ 10) (a b : Cel) (hA : Opn w h g a.1 a.2) (hB : Opn w h g b.1 b.2) :
    Gives G 173 [aa cs, ac a.1 a.2, ac b.1 b.2] (if steps w h g b (ix a) < 0 then ⟨[.s .nils, .s (.bool false)], []⟩ else ⟨[.own (wayHome w h g a b).length 2 (encC (wayHome w h g a b)), .s (.bool true)], []⟩) := by
  have hstB : Gives G 46 [aa cs, ac b.1 b.2, .d (.clo 77 [.agg cs] [])] ⟨[.own (w * h).toNat 1 (rowI .i64 (w * h).toNat (outI w (steps w h g b)))], []⟩ := (steps_eq (w := w) (h := h) (g := g) b) ▸ steps_gives l hs (holds_open l ⟨by omega, by omega⟩) (fun _ _ => trivial) b.1 b.2 hB.1
  have hH := steps_homes (g := g) ⟨by omega, by omega⟩ hB
  unfold wayHome
  generalize steps w h g b = d at hstB hH ⊢
  have hAH := hA.1
  have hBH := hB.1
  have hixa := idx_b (w := w) (h := h) (by omega) hA.1
  have hga := outI_get (d := d) hA.1
  have hba := hH.b (ix a)
  refine Gives.by rfl rfl (W.seq ?_)
  repeat' first | ((with_reducible apply WR.c_o (f := 46) (fn := Code.f46)); exact rfl; exact rfl; exact rfl; (exact rfl); (focus ((repeat' first | exact args_nil | apply args_d | exact toD_d rfl | (apply toD_clo; exact rfl) | exact all_nil | apply all_cons | exact rfl); done)); exact hstB; (exact rfl)) | ((with_reducible apply WR.c_s (f := 48) (fn := Code.f48)); exact rfl; exact rfl; exact rfl; (exact rfl); (focus ((repeat' first | exact args_nil | apply args_d | exact toD_d rfl | (apply toD_clo; exact rfl) | exact all_nil | apply all_cons | exact rfl); done)); exact index_gives' (by assumption) _ _ (by omega) (by omega)) | ((with_reducible apply WR.ld); exact rfl; exact rfl; exact rfl; (first | exact ld2 | exact loadC_all (IsLawn.len (by assumption)) | exact ldR (by omega))) | ((with_reducible apply WR.mv); exact rfl; exact rfl) | ((with_reducible apply WR.st); exact rfl; exact rfl; exact rfl; exact st2) | ((with_reducible apply WR.bx); exact rfl; exact rfl; exact (by first | exact IsLawn.len (by assumption) | exact rfl); (exact rfl)) | ((with_reducible apply WR.al); exact rfl; (exact rfl)) | ((with_reducible apply WR.nil)) | (with_reducible refine andThen_n ?_) | (with_reducible refine andThen_r ?_) | (with_reducible refine W.seq ?_) | (with_reducible refine W.region ?_) | (with_reducible refine W.skip ?_) | (with_reducible refine W.ret ?_) | (with_reducible refine W.block ?_) | ((with_reducible apply W.condT); exact rfl) | ((with_reducible apply W.condF); exact rfl) | ((with_reducible apply Done.f); (intro hh hh2; exact (nomatch hh2)); (focus ((repeat' first | exact all_nil | apply all_cons | exact res_tmp rfl | exact rfl); done)); (focus ((repeat' first | exact all_nil | apply all_cons | exact retOf_s rfl | exact rfl); done)); exact rfl; (focus ((repeat' first | exact outs_nil | apply outs_d | exact rfl); done))) | (intro hb; try (exfalso; omega)) | ((with_reducible apply WR.lss); exact rfl; exact rfl; exact rfl) | ((with_reducible apply WR.is); exact rfl; exact rfl; exact rfl; omega) | ((with_reducible apply WR.bs1); exact rfl; exact rfl; (exact rfl)) | ((with_reducible apply WR.mf); exact rfl; exact rfl)
  · rw [if_pos (by simp only [ix]; omega)]; rfl
  · have h0a : 0 ≤ d (ix a) := by simp only [ix]; omega
    rw [if_neg (by omega)]
    obtain ⟨T, htot⟩ : ∃ T, T = [a] ++ homeP w h d (d (ix a)).toNat a := ⟨_, rfl⟩
    rw [← htot]
    (refine (?_ : W _ (Code.loop _) _ _))
    (refine W.loopM [3, 5, 8] [3, 5, 17] [10, 12, 32, 61, 62] (fun zz : (Cel) × (List Cel) => match zz with | (c, out) => ((d (ix c)).toNat : Nat)) (fun zz : (Cel) × (List Cel) => match zz with | (c, out) => (Has w h c.1 c.2 ∧ 0 ≤ d (ix c) ∧ T = out ++ homeP w h d (d (ix c)).toNat c ∧ out.length + (d (ix c)).toNat ≤ 101 : Prop)) (fun zz : (Cel) × (List Cel) => match zz with | (c, out) => [(10, .a (.ptr 10 0)), (9, .a (.sl 26 0 out.length 2))]) (fun zz : (Cel) × (List Cel) => match zz with | (c, out) => [(10, .flat false ([.int .i8 c.1, .int .i8 c.2])), (26, .flat false (encC out))]) (a, [a]) (⟨hA.1, h0a, htot, by simp; omega⟩) ⟨rfl, rfl, trivial⟩ ⟨rfl, rfl, trivial⟩ ⟨np, np, np, np, np, trivial⟩ ?_)
    rintro ⟨c, out⟩ σ hP hN; dsimp only [setL, putL] at hP ⊢; obtain ⟨n10, hN⟩ := hN; obtain ⟨n12, hN⟩ := hN; obtain ⟨n32, hN⟩ := hN; obtain ⟨n61, hN⟩ := hN; obtain ⟨n62, hN⟩ := hN
    obtain ⟨hc, h0c, hT, hlen⟩ := hP
    by_cases hcb : c = b
    · have hd0 : d (ix c) = 0 := by rw [hcb]; exact hH.home
      repeat' first | ((with_reducible apply WR.c_o (f := 89) (fn := Code.f89)); exact rfl; exact rfl; exact rfl; (exact rfl); (focus ((repeat' first | exact args_nil | apply args_d | exact toD_d rfl | exact all_nil | apply all_cons | exact rfl); done)); exact beside_gives _ _ (by omega); (first | exact rfl | assumption)) | ((with_reducible apply WR.ld); exact rfl; exact rfl; exact rfl; (first | exact ld2)) | ((with_reducible apply WR.mv); exact rfl; exact rfl) | ((with_reducible apply WR.nil)) | (with_reducible refine andThen_n ?_) | (with_reducible refine andThen_x ?_) | (with_reducible refine inB_x ?_) | (with_reducible refine W.seq ?_) | (with_reducible refine W.region ?_) | (with_reducible refine W.skip ?_) | (with_reducible refine W.ret ?_) | (with_reducible refine W.exit ?_) | (with_reducible refine W.block ?_) | ((with_reducible apply W.condT); exact rfl) | ((with_reducible apply W.condF); exact rfl) | ((with_reducible apply Done.f); (intro hh hh2; exact (nomatch hh2)); (focus ((repeat' first | exact all_nil | apply all_cons | exact res_tmp rfl | exact rfl); done)); (focus ((repeat' first | exact all_nil | apply all_cons | exact retOf_s rfl | exact retOf_o rfl rfl (by first | exact encC_length _ | assumption | exact rfl) | exact rfl); done)); exact rfl; (focus ((repeat' first | exact outs_nil | apply outs_d | exact rfl); done))) | (intro hb; try (exfalso; omega)) | ((with_reducible apply WR.en); exact rfl; exact rfl; exact rfl) | ((with_reducible apply WR.le); exact rfl; exact rfl)
      · exfalso
        exact (by assumption : ¬ (c.1 = b.1 ∧ c.2 = b.2)) (by rw [hcb]; exact ⟨rfl, rfl⟩)
      · rw [hT, hd0]; simp only [homeP, Int.toNat_zero, List.append_nil]; rfl
    · obtain ⟨h1c, p, hp, hpn⟩ := hH.next hc h0c hcb
      have hne : ¬ (c.1 = b.1 ∧ c.2 = b.2) := fun hh => hcb (Prod.ext hh.1 hh.2)
      have hixc := idx_b (w := w) (h := h) (by omega) hc
      have hgc := outI_get (d := d) hc
      have hbc := hH.b (10 * c.2.toNat + c.1.toNat)
      have hlen4 : (Near c.1 c.2).length = 4 := rfl
      repeat' first | ((with_reducible apply WR.c_o (f := 89) (fn := Code.f89)); exact rfl; exact rfl; exact rfl; (exact rfl); (focus ((repeat' first | exact args_nil | apply args_d | exact toD_d rfl | exact rfl); done)); exact beside_gives _ _ (by omega); (first | exact rfl | assumption)) | ((with_reducible apply WR.ld); exact rfl; exact rfl; exact rfl; (first | exact ld2)) | ((with_reducible apply WR.mv); exact rfl; exact rfl) | ((with_reducible apply WR.nil)) | (with_reducible refine andThen_n ?_) | (with_reducible refine W.seq ?_) | (with_reducible refine W.region ?_) | (with_reducible refine W.skip ?_) | (with_reducible refine W.block ?_) | ((with_reducible apply W.condT); exact rfl) | (intro hb; try (exfalso; omega)) | ((with_reducible apply WR.en); exact rfl; exact rfl; exact rfl) | ((with_reducible apply WR.le); exact rfl; exact rfl)
      (refine (?_ : W _ (Code.loop _) _ _))
      (refine W.loopM [3, 5, 8, 9, 10, 32, 33] [3, 5, 17, 26] [10, 12, 32, 61, 62] (fun j : (Nat) => (4 - j : Nat)) (fun j : (Nat) => (j ≤ 4 ∧ ∀ x ∈ (Near c.1 c.2).take j, ¬ nextP w h d c x : Prop)) (fun j : (Nat) => [(34, .a (.d (.s (.int .i64 (j : Nat)))))]) (fun j : (Nat) => [(10, .flat false ([.int .i8 c.1, .int .i8 c.2])), (32, .flat false (encC (Near c.1 c.2)))]) 0 (⟨by omega, by simp⟩) ⟨rfl, trivial⟩ ⟨rfl, rfl, trivial⟩ ⟨np, np, np, np, np, trivial⟩ ?_)
      rintro j σ hP hN; dsimp only [setL, putL] at hP ⊢; obtain ⟨n10, hN⟩ := hN; obtain ⟨n12, hN⟩ := hN; obtain ⟨n32, hN⟩ := hN; obtain ⟨n61, hN⟩ := hN; obtain ⟨n62, hN⟩ := hN
      obtain ⟨hj, hno⟩ := hP
      by_cases hj4 : j < 4
      · have hget := gC_get (l := Near c.1 c.2) (k := j) (by omega)
        have hnb := Near_b (gC_mem (l := Near c.1 c.2) (k := j) (by omega))
        have hbe := hH.b (ix (gC (Near c.1 c.2) j))
        repeat' first | ((with_reducible apply WH.c_p (f := 77) (fn := Code.f77)); exact rfl; exact rfl; exact rfl; (exact rfl); (focus ((repeat' first | exact args_nil | apply args_d | exact toD_d rfl | exact rfl); done)); exact open_gives (by assumption) _ _ (by omega)) | ((with_reducible apply WR.ld); exact rfl; exact rfl; exact rfl; (first | exact ld2 | exact loadC_all (IsLawn.len (by assumption)) | exact ldC (by first | omega))) | ((with_reducible apply WR.mv); exact rfl; exact rfl) | ((with_reducible apply WH.ld); exact rfl; exact rfl; exact rfl; (first | exact ld2 | exact loadC_all (IsLawn.len (by assumption)) | exact ldC (by first | omega)); exact rfl) | ((with_reducible apply WH.off); exact rfl) | ((with_reducible apply WR.st); exact rfl; exact rfl; exact rfl; exact st2) | ((with_reducible apply WR.al); exact rfl; (first | exact rfl | assumption)) | ((with_reducible apply WR.nil)) | (with_reducible refine andThen_n ?_) | (with_reducible refine inB_n ?_) | (with_reducible refine W.seq ?_) | (with_reducible refine W.region ?_) | (with_reducible refine W.skip ?_) | (with_reducible refine W.block ?_) | ((with_reducible apply W.condT); exact rfl) | ((with_reducible apply W.condF); exact rfl) | ((with_reducible apply WH.mv); exact rfl; exact rfl; exact rfl) | ((with_reducible apply WH.nil)) | (with_reducible refine W.draw ?_) | (intro hb; try (exfalso; omega)) | ((with_reducible apply WR.lss); exact rfl; exact rfl; exact rfl) | ((with_reducible apply WR.isn); exact rfl; exact rfl; exact rfl; omega) | ((with_reducible apply WR.ad); exact rfl; exact rfl; exact rfl; (first | exact i64_in _ (by omega) | assumption)) | ((with_reducible apply WH.pk); exact rfl; exact rfl; exact rfl)
        · have hE : Opn w h g (gC (Near c.1 c.2) j).1 (gC (Near c.1 c.2) j).2 := by assumption
          have hEH := hE.1
          have hixe := idx_b (w := w) (h := h) (by omega) hEH
          have hge := outI_get (d := d) hEH
          repeat' first | ((with_reducible apply WH.c_s (f := 48) (fn := Code.f48)); exact rfl; exact rfl; exact rfl; (exact rfl); (focus ((repeat' first | exact args_nil | apply args_d | exact toD_d rfl | exact rfl); done)); exact index_gives' (by assumption) _ _ (by omega) (by omega); exact rfl) | ((with_reducible apply WR.ld); exact rfl; exact rfl; exact rfl; (first | exact ld2 | exact loadC_all (IsLawn.len (by assumption)) | exact ldR (by omega))) | ((with_reducible apply WR.mv); exact rfl; exact rfl) | ((with_reducible apply WH.ld); exact rfl; exact rfl; exact rfl; (first | exact ld2 | exact loadC_all (IsLawn.len (by assumption)) | exact ldR (by omega)); exact rfl) | ((with_reducible apply WR.st); exact rfl; exact rfl; exact rfl; exact st2) | ((with_reducible apply WR.al); exact rfl; (first | exact rfl | assumption | (focus ((repeat' first | exact rfl | assumption | (with_reducible apply noPar_set) | ((with_reducible apply noPar_puto); exact rfl) | (with_reducible apply noPar_kill)); done)))) | ((with_reducible apply WR.nil)) | (with_reducible refine andThen_n ?_) | (with_reducible refine andThen_x ?_) | (with_reducible refine inB_n ?_) | (with_reducible refine inB_x ?_) | (with_reducible refine inB_y rfl ?_) | (with_reducible refine W.seq ?_) | (with_reducible refine W.region ?_) | (with_reducible refine W.skip ?_) | (with_reducible refine W.exit ?_) | ((with_reducible apply W.condT); exact rfl) | ((with_reducible apply W.condF); exact rfl) | ((with_reducible apply WH.mv); exact rfl; exact rfl; exact rfl) | ((with_reducible apply WH.nil)) | (intro hb; try (exfalso; omega)) | ((with_reducible apply WR.bs1); exact rfl; exact rfl; (first | exact rfl | assumption | (focus ((repeat' first | exact rfl | assumption | (with_reducible apply noPar_set) | ((with_reducible apply noPar_puto); exact rfl) | (with_reducible apply noPar_kill)); done)))) | ((with_reducible apply WH.is); exact rfl; exact rfl; exact rfl; omega; exact rfl) | ((with_reducible apply WR.ad); exact rfl; exact rfl; exact rfl; (first | exact i64_in _ (by omega) | assumption)) | ((with_reducible apply WR.apC); exact rfl; exact rfl; exact rfl; exact rfl; omega) | ((with_reducible apply WH.eql); exact rfl; exact rfl; exact rfl) | ((with_reducible apply WH.sb); exact rfl; exact rfl; exact rfl; (first | exact i64_in _ (by omega) | assumption)) | ((with_reducible apply WH.pk); exact rfl; exact rfl; exact rfl)
          · have hnp : nextP w h d c (gC (Near c.1 c.2) j) := ⟨hEH, by simp only [ix]; omega⟩
            have hn : nextH w h d c = some (gC (Near c.1 c.2) j) := find_first hget (by simpa using hnp) fun x hx => by simpa using hno x hx
            have hst := homeP_step h1c hn hnp.2
            have h2 := hnp.2
            (refine W.nxt (gC (Near c.1 c.2) j, out ++ [gC (Near c.1 c.2) j]) (by first | omega | (dsimp only; omega)) ?_ ⟨rfl, rfl, trivial⟩ ⟨rfl, rfl, trivial⟩ ⟨rfl, rfl, rfl, trivial⟩ ⟨rfl, rfl, rfl, trivial⟩ ⟨np, np, np, np, np, trivial⟩); (try dsimp only)
            exact ⟨hEH, by omega, by rw [hT, hst, List.append_assoc]; rfl, by rw [List.length_append, List.length_singleton]; omega⟩
          · (refine W.nxt (j + 1) (by first | omega | (dsimp only; omega)) ?_ ⟨rfl, trivial⟩ ⟨rfl, rfl, trivial⟩ ⟨rfl, rfl, rfl, rfl, rfl, rfl, rfl, trivial⟩ ⟨rfl, rfl, rfl, rfl, trivial⟩ ⟨np, np, np, np, np, trivial⟩); (try dsimp only)
            exact ⟨by omega, (all_snoc (by omega)).2 ⟨hno, fun hh => by have h3 := hh.2; simp only [ix] at h3; omega⟩⟩
        · (refine W.nxt (j + 1) (by first | omega | (dsimp only; omega)) ?_ ⟨rfl, trivial⟩ ⟨rfl, rfl, trivial⟩ ⟨rfl, rfl, rfl, rfl, rfl, rfl, rfl, trivial⟩ ⟨rfl, rfl, rfl, rfl, trivial⟩ ⟨np, np, np, np, np, trivial⟩); (try dsimp only)
          exact ⟨by omega, (all_snoc (by omega)).2 ⟨hno, fun hh => absurd (hH.op _ hh.1 (by rw [hh.2]; omega)) (by assumption)⟩⟩
      · exfalso
        rw [List.take_of_length_le (by omega)] at hno
        exact hno p hp hpn
theorem homeP_len (d : Nat → Int) : ∀ (n : Nat) (c : Cel), (homeP w h d n c).length ≤ n
  | 0, c => by simp [homeP]
  | n + 1, c => by
    simp only [homeP]
    split
    · rw [List.length_cons]; have := homeP_len d n (by assumption); omega
    · simp
end Go.DM

/- Sides of cells; the border: both sides. -/
set_option maxHeartbeats 4000000
namespace Go.DM
variable [Tok]
open Go.IntWalk
variable {w h : Int} {g : Nat → Int} {cs : List S}
def sideOf (w h : Int) (g : Nat → Int) (e : Cel) : Nat := if Has w h e.1 e.2 then (g (ix e)).toNat else 4
def sideStep (w h : Int) (g : Nat → Int) (f : Nat → Int) (e : Cel) : Nat → Int := gset f (sideOf w h g e) (f (sideOf w h g e) + 1)
def sides (w h : Int) (g : Nat → Int) (c : Cel) : Nat → Int := (Near c.1 c.2).foldl (sideStep w h g) fun _ => 0
def bordP (w h : Int) (g : Nat → Int) (c : Cel) : Prop := Is w h g 0 c.1 c.2 ∧ sides w h g c 0 < 4
instance (w h : Int) (g : Nat → Int) : DecidablePred (bordP w h g) := fun c => inferInstanceAs (Decidable (_ ∧ _))
def border (w h : Int) (g : Nat → Int) (b : Bool) : List Cel := (ofKind w h g 0).filter fun c => decide (sides w h g c 0 < 4) == b
end Go.DM

/- How deep a cell lies: both sides, the statement. -/
set_option maxHeartbeats 4000000
namespace Go.DM
variable [Tok]
open Go.IntWalk
variable {w h : Int} {g : Nat → Int} {cs : List S}
theorem visit_sub {ok : Cel → Prop} [DecidablePred ok] {c a : Cel} : ∀ (L : List Cel) (s : (Nat → Int) × List Cel), a ∈ s.2 → a ∈ (L.foldl (visit ok c) s).2
  | [], s, ha => ha
  | e :: r, s, ha => by
    rw [List.foldl_cons]
    refine visit_sub r _ ?_
    unfold visit; split
    · exact List.mem_append_left _ ha
    · exact ha
theorem visit_new {ok : Cel → Prop} [DecidablePred ok] (hs : w ≤ 10 ∧ h ≤ 10) (hok : ∀ e, ok e → Has w h e.1 e.2) {c a : Cel} (ha : Has w h a.1 a.2) : ∀ (L : List Cel) (s : (Nat → Int) × List Cel), 0 ≤ (L.foldl (visit ok c) s).1 (ix a) → 0 ≤ s.1 (ix a) ∨ a ∈ (L.foldl (visit ok c) s).2
  | [], s, h0 => .inl h0
  | e :: r, s, h0 => by
    rw [List.foldl_cons] at h0 ⊢
    rcases visit_new hs hok ha r _ h0 with h1 | h1
    · unfold visit at h1
      split at h1
      · rename_i hh
        simp only [gset] at h1
        split at h1
        · rename_i h2
          have h3 := ix_inj hs ha (hok e hh.1) h2
          refine .inr (visit_sub r _ ?_)
          unfold visit; rw [if_pos hh, h3]
          exact List.mem_append_right _ (List.mem_singleton.2 rfl)
        · exact .inl h1
      · exact .inl h1
    · exact .inr h1
theorem visit_all {ok : Cel → Prop} [DecidablePred ok] {c e : Cel} : ∀ (L : List Cel) (s : (Nat → Int) × List Cel), 0 ≤ s.1 (ix c) → e ∈ L → ok e → 0 ≤ (L.foldl (visit ok c) s).1 (ix e)
  | [], s, _, he, _ => by cases he
  | a :: r, s, h0, he, hk => by
    have h1 := visit_keep (ok := ok) (c := c) (k := ix c) [a] s h0
    simp only [List.foldl_cons, List.foldl_nil] at h1
    rw [List.foldl_cons]
    rcases List.mem_cons.1 he with rfl | he
    · have h2 : 0 ≤ (visit ok c s e).1 (ix e) := by
        unfold visit; split
        · simp only [gset, if_true]; omega
        · rename_i hh
          exact Int.not_lt.1 fun h3 => hh ⟨hk, h3⟩
      rw [visit_keep r _ h2]; exact h2
    · exact visit_all r _ (by omega) he hk
theorem visit_count {ok : Cel → Prop} [DecidablePred ok] (hs : w ≤ 10 ∧ h ≤ 10) (hok : ∀ e, ok e → Has w h e.1 e.2) {c : Cel} : ∀ (L : List Cel) {s : (Nat → Int) × List Cel}, BInv w h s.1 (c :: s.2) → unk (L.foldl (visit ok c) s).1 + (L.foldl (visit ok c) s).2.length = unk s.1 + s.2.length
  | [], s, _ => rfl
  | a :: r, s, b => by
    rw [List.foldl_cons, visit_count hs hok r (visit_inv hs hok b)]
    unfold visit; split
    · rename_i hh
      have h1 := (b.push hs (List.mem_cons_self ..) (hok a hh.1) hh.2).2
      rw [List.length_append, List.length_singleton]
      simp only at h1 ⊢
      omega
    · rfl
def Closed (w h : Int) (ok : Cel → Prop) (d : Nat → Int) (r : List Cel) : Prop := ∀ c, Has w h c.1 c.2 → 0 ≤ d (ix c) → c ∈ r ∨ ∀ e ∈ Near c.1 c.2, ok e → 0 ≤ d (ix e)
theorem bfs_closed {ok : Cel → Prop} [DecidablePred ok] (hs : w ≤ 10 ∧ h ≤ 10) (hok : ∀ e, ok e → Has w h e.1 e.2) : ∀ (n : Nat) {s : (Nat → Int) × List Cel}, BInv w h s.1 s.2 → unk s.1 + s.2.length ≤ n → Closed w h ok s.1 s.2 → Closed w h ok (bfs ok n s) []
  | 0, (d, []), _, _, b => b
  | 0, (d, c :: r), _, hn, b => by simp at hn
  | n + 1, (d, []), _, _, b => b
  | n + 1, (d, c :: r), i, hn, b => by
    have hc := i.q c (List.mem_cons_self ..)
    have h1 := fold_inv hs hok (Near c.1 c.2) (s := (d, r)) i
    have h2 := visit_count hs hok (Near c.1 c.2) (s := (d, r)) i
    refine bfs_closed hs hok n ⟨h1.lo, h1.hi, fun a ha => h1.q a (List.mem_cons_of_mem _ ha), by have := h1.len; rw [List.length_cons] at this; omega⟩ (by simp only [List.length_cons] at hn; simp only at h2; omega) ?_
    intro a ha h0
    by_cases hac : a = c
    · subst hac
      exact .inr fun e he hk => visit_all _ _ hc.2 he hk
    · rcases visit_new hs hok ha (Near c.1 c.2) (d, r) h0 with h3 | h3
      · rcases b a ha h3 with h4 | h4
        · rcases List.mem_cons.1 h4 with h5 | h5
          · exact absurd h5 hac
          · exact .inl (visit_sub _ _ h5)
        · refine .inr fun e he hk => ?_
          have h5 := h4 e he hk
          rw [visit_keep (Near c.1 c.2) (d, r) h5]; exact h5
      · exact .inl h3
theorem far_closed {ok : Cel → Prop} [DecidablePred ok] (hs : w ≤ 10 ∧ h ≤ 10) (hok : ∀ e, ok e → Has w h e.1 e.2) {c : Cel} (hc : Has w h c.1 c.2) : Closed w h ok (far ok c) [] := by
  have hf := BInv.first hs hc
  refine bfs_closed hs hok 100 hf.1 (by rw [hf.2]; simp) ?_
  intro a ha h0
  simp only [gset] at h0
  split at h0
  · rename_i h2; exact .inl (List.mem_singleton.2 (ix_inj hs ha hc h2))
  · omega
end Go.DM

/- The steps that are found are the least ones. -/
set_option maxHeartbeats 4000000
namespace Go.DM
variable [Tok]
open Go.IntWalk
variable {w h : Int} {g : Nat → Int} {cs : List S}
section
variable {ok : Cel → Prop} [DecidablePred ok]
def Beside1 (w h : Int) (ok : Cel → Prop) (d : Nat → Int) (a : Cel) : Prop := ∀ e ∈ Near a.1 a.2, ok e → 0 ≤ d (ix e) ∧ d (ix e) ≤ d (ix a) + 1
structure MidL (w h : Int) (ok : Cel → Prop) (c : Cel) (P : List Cel) (d : Nat → Int) (qu : List Cel) : Prop where
  hc : Has w h c.1 c.2 ∧ 0 ≤ d (ix c)
  hq : ∀ a ∈ qu, (Has w h a.1 a.2 ∧ 0 ≤ d (ix a)) ∧ d (ix c) ≤ d (ix a)
  sorted : qu.Pairwise fun a b => d (ix a) ≤ d (ix b)
  top : ∀ a, Has w h a.1 a.2 → 0 ≤ d (ix a) → d (ix a) ≤ d (ix c) + 1
  all : ∀ a, Has w h a.1 a.2 → 0 ≤ d (ix a) → a ∈ qu ∨ a = c ∨ Beside1 w h ok d a
  proc : ∀ e ∈ P, ok e → 0 ≤ d (ix e)
theorem MidL.visit (hs : w ≤ 10 ∧ h ≤ 10) (hok : ∀ e, ok e → Has w h e.1 e.2) {c e : Cel} {P : List Cel} {d : Nat → Int} {qu : List Cel} (m : MidL w h ok c P d qu) :
    MidL w h ok c (P ++ [e]) (visit ok c (d, qu) e).1 (visit ok c (d, qu) e).2 := by
  unfold DM.visit
  split
  · rename_i hh
    obtain ⟨he, hd⟩ := hh
    simp only at hd
    have hHe := hok e he
    have keep : ∀ a, 0 ≤ d (ix a) → gset d (ix e) (d (ix c) + 1) (ix a) = d (ix a) := fun a ha => by
      simp only [gset]; rw [if_neg (fun k => by rw [k] at ha; omega)]
    have new : gset d (ix e) (d (ix c) + 1) (ix e) = d (ix c) + 1 := by simp [gset]
    have hc := m.hc
    have old : ∀ a, Has w h a.1 a.2 → 0 ≤ gset d (ix e) (d (ix c) + 1) (ix a) → a = e ∨ 0 ≤ d (ix a) := fun a hHa ha => by
      simp only [gset] at ha
      split at ha
      · rename_i k; exact .inl (ix_inj hs hHa hHe k)
      · exact .inr ha
    show MidL w h ok c (P ++ [e]) (gset d (ix e) (d (ix c) + 1)) (qu ++ [e])
    refine ⟨⟨hc.1, by rw [keep c hc.2]; exact hc.2⟩, fun a ha => ?_, ?_, fun a hHa ha => ?_, fun a hHa ha => ?_, fun x hx hxo => ?_⟩
    · rw [keep c hc.2]
      rcases List.mem_append.1 ha with ha | ha
      · have := m.hq a ha
        rw [keep a this.1.2]; exact this
      · rw [List.mem_singleton] at ha; subst ha
        rw [new]
        exact ⟨⟨hHe, by omega⟩, by omega⟩
    · rw [List.pairwise_append]
      refine ⟨?_, List.pairwise_singleton _ _, fun a ha b hb => ?_⟩
      · refine List.Pairwise.imp_of_mem ?_ m.sorted
        intro a b ha hb hab
        rw [keep a (m.hq a ha).1.2, keep b (m.hq b hb).1.2]; exact hab
      · rw [List.mem_singleton] at hb; subst hb
        rw [keep a (m.hq a ha).1.2, new]
        exact m.top a (m.hq a ha).1.1 (m.hq a ha).1.2
    · rw [keep c hc.2]
      rcases old a hHa ha with rfl | h0
      · rw [new]; omega
      · rw [keep a h0]; exact m.top a hHa h0
    · rcases old a hHa ha with rfl | h0
      · exact .inl (List.mem_append_right _ (List.mem_singleton_self _))
      · rcases m.all a hHa h0 with k | k | k
        · exact .inl (List.mem_append_left _ k)
        · exact .inr (.inl k)
        · refine .inr (.inr fun x hx hxo => ?_)
          have := k x hx hxo
          rw [keep x this.1, keep a h0]; exact this
    · rcases List.mem_append.1 hx with hx | hx
      · have := m.proc x hx hxo
        rw [keep x this]; exact this
      · rw [List.mem_singleton] at hx; subst hx
        rw [new]; omega
  · rename_i hh
    show MidL w h ok c (P ++ [e]) d qu
    refine ⟨m.hc, m.hq, m.sorted, m.top, m.all, fun x hx hxo => ?_⟩
    rcases List.mem_append.1 hx with hx | hx
    · exact m.proc x hx hxo
    · rw [List.mem_singleton] at hx; subst hx
      have : ¬ d (ix x) < 0 := fun k => hh ⟨hxo, k⟩
      show 0 ≤ d (ix x)
      omega
structure LayL (w h : Int) (ok : Cel → Prop) (d : Nat → Int) (qu : List Cel) : Prop where
  hq : ∀ a ∈ qu, Has w h a.1 a.2 ∧ 0 ≤ d (ix a)
  sorted : qu.Pairwise fun a b => d (ix a) ≤ d (ix b)
  top : ∀ a, Has w h a.1 a.2 → 0 ≤ d (ix a) → ∀ b ∈ qu, d (ix a) ≤ d (ix b) + 1
  all : ∀ a, Has w h a.1 a.2 → 0 ≤ d (ix a) → a ∈ qu ∨ Beside1 w h ok d a
theorem LayL.pop (hs : w ≤ 10 ∧ h ≤ 10) (hok : ∀ e, ok e → Has w h e.1 e.2) {c : Cel} {d : Nat → Int} {r : List Cel} (m : LayL w h ok d (c :: r)) :
    LayL w h ok ((Near c.1 c.2).foldl (visit ok c) (d, r)).1 ((Near c.1 c.2).foldl (visit ok c) (d, r)).2 := by
  have h0 : MidL w h ok c [] d r := by
    have hc := m.hq c (List.mem_cons_self ..)
    have hp := List.pairwise_cons.1 m.sorted
    refine ⟨hc, fun a ha => ⟨m.hq a (List.mem_cons_of_mem _ ha), hp.1 a ha⟩, hp.2, fun a hHa ha => m.top a hHa ha c (List.mem_cons_self ..), fun a hHa ha => ?_, fun e he => by cases he⟩
    rcases m.all a hHa ha with k | k
    · rcases List.mem_cons.1 k with k | k
      · exact .inr (.inl k)
      · exact .inl k
    · exact .inr (.inr k)
  have key : ∀ (L P : List Cel) (s : (Nat → Int) × List Cel), MidL w h ok c P s.1 s.2 → MidL w h ok c (P ++ L) (L.foldl (visit ok c) s).1 (L.foldl (visit ok c) s).2 := by
    intro L
    induction L with
    | nil => intro P s m; simpa using m
    | cons e L ih =>
      intro P s m
      have := ih (P ++ [e]) (visit ok c s e) (MidL.visit hs hok (d := s.1) (qu := s.2) m)
      simpa using this
  have m1 := key (Near c.1 c.2) [] (d, r) h0
  generalize (Near c.1 c.2).foldl (visit ok c) (d, r) = s at m1 ⊢
  rw [List.nil_append] at m1
  refine ⟨fun a ha => (m1.hq a ha).1, m1.sorted, fun a hHa ha b hb => ?_, fun a hHa ha => ?_⟩
  · have := m1.top a hHa ha
    have := (m1.hq b hb).2
    omega
  · rcases m1.all a hHa ha with k | k | k
    · exact .inl k
    · subst k
      refine .inr fun e he heo => ?_
      have h1 := m1.proc e he heo
      exact ⟨h1, m1.top e (hok e heo) h1⟩
    · exact .inr k
def Flat1 (w h : Int) (ok : Cel → Prop) (d : Nat → Int) : Prop := ∀ a e, Has w h a.1 a.2 → 0 ≤ d (ix a) → e ∈ Near a.1 a.2 → ok e → 0 ≤ d (ix e) → d (ix e) ≤ d (ix a) + 1
theorem LayL.flat (hok : ∀ e, ok e → Has w h e.1 e.2) {d : Nat → Int} {qu : List Cel} (m : LayL w h ok d qu) : Flat1 w h ok d := fun a e hHa ha hn heo he => by
  rcases m.all a hHa ha with k | k
  · exact m.top e (hok e heo) he a k
  · exact (k e hn heo).2
theorem bfs_flat (hs : w ≤ 10 ∧ h ≤ 10) (hok : ∀ e, ok e → Has w h e.1 e.2) : ∀ (n : Nat) {d : Nat → Int} {qu : List Cel}, LayL w h ok d qu → Flat1 w h ok (bfs ok n (d, qu))
  | 0, d, qu, m => m.flat hok
  | n + 1, d, [], m => m.flat hok
  | n + 1, d, c :: r, m => bfs_flat hs hok n (m.pop hs hok)
theorem far_flat (hs : w ≤ 10 ∧ h ≤ 10) (hok : ∀ e, ok e → Has w h e.1 e.2) {c : Cel} (hc : Has w h c.1 c.2) : Flat1 w h ok (far ok c) := by
  refine bfs_flat hs hok 100 ⟨fun a ha => ?_, List.pairwise_singleton _ _, fun a hHa ha b hb => ?_, fun a hHa ha => ?_⟩
  · rw [List.mem_singleton] at ha; subst ha
    exact ⟨hc, by simp [gset]⟩
  · rw [List.mem_singleton] at hb; subst hb
    simp only [gset] at ha ⊢
    split at ha
    · rename_i k; rw [if_pos k]; simp
    · omega
  · simp only [gset] at ha
    split at ha
    · rename_i k; exact .inl (List.mem_singleton.2 (ix_inj hs hHa hc k))
    · omega
def Come (w h : Int) (ok : Cel → Prop) (c0 : Cel) (d : Nat → Int) : Prop :=
  ∀ e, Has w h e.1 e.2 → 0 ≤ d (ix e) → (e = c0 ∧ d (ix e) = 0) ∨ (ok e ∧ ∃ p, (Has w h p.1 p.2 ∧ 0 ≤ d (ix p)) ∧ e ∈ Near p.1 p.2 ∧ d (ix e) = d (ix p) + 1)
theorem Come.visit (hs : w ≤ 10 ∧ h ≤ 10) (hok : ∀ e, ok e → Has w h e.1 e.2) {c0 c e : Cel} {d : Nat → Int} {qu : List Cel} (m : Come w h ok c0 d) (hc : Has w h c.1 c.2 ∧ 0 ≤ d (ix c)) (hn : e ∈ Near c.1 c.2) :
    Come w h ok c0 (visit ok c (d, qu) e).1 ∧ ∀ a, 0 ≤ d (ix a) → (visit ok c (d, qu) e).1 (ix a) = d (ix a) := by
  unfold DM.visit
  split
  · rename_i hh
    obtain ⟨he, hd⟩ := hh
    simp only at hd
    have keep : ∀ a, 0 ≤ d (ix a) → gset d (ix e) (d (ix c) + 1) (ix a) = d (ix a) := fun a ha => by
      simp only [gset]; rw [if_neg (fun k => by rw [k] at ha; omega)]
    show Come w h ok c0 (gset d (ix e) (d (ix c) + 1)) ∧ ∀ a, 0 ≤ d (ix a) → gset d (ix e) (d (ix c) + 1) (ix a) = d (ix a)
    refine ⟨fun x hHx hx => ?_, keep⟩
    by_cases hxe : ix x = ix e
    · have := ix_inj hs hHx (hok e he) hxe
      subst this
      refine .inr ⟨he, c, ⟨hc.1, by rw [keep c hc.2]; exact hc.2⟩, hn, ?_⟩
      rw [keep c hc.2]; simp [gset]
    · have hx0 : 0 ≤ d (ix x) := by simp only [gset] at hx; rw [if_neg hxe] at hx; exact hx
      rcases m x hHx hx0 with k | ⟨k1, p, k2, k3, k4⟩
      · exact .inl ⟨k.1, by rw [keep x hx0]; exact k.2⟩
      · exact .inr ⟨k1, p, ⟨k2.1, by rw [keep p k2.2]; exact k2.2⟩, k3, by rw [keep x hx0, keep p k2.2]; exact k4⟩
  · exact ⟨m, fun _ _ => rfl⟩
theorem bfs_come (hs : w ≤ 10 ∧ h ≤ 10) (hok : ∀ e, ok e → Has w h e.1 e.2) {c0 : Cel} : ∀ (n : Nat) {d : Nat → Int} {qu : List Cel}, Come w h ok c0 d → LayL w h ok d qu → Come w h ok c0 (bfs ok n (d, qu))
  | 0, d, qu, m, _ => m
  | n + 1, d, [], m, _ => m
  | n + 1, d, c :: r, m, b => by
    have hc := b.hq c (List.mem_cons_self ..)
    have key : ∀ (L : List Cel) (s : (Nat → Int) × List Cel), (∀ e ∈ L, e ∈ Near c.1 c.2) → Come w h ok c0 s.1 → 0 ≤ s.1 (ix c) → Come w h ok c0 (L.foldl (visit ok c) s).1 := by
      intro L
      induction L with
      | nil => intro s _ m _; exact m
      | cons e L ih =>
        intro s hL m hc0
        have hv := Come.visit hs hok (d := s.1) (qu := s.2) m ⟨hc.1, hc0⟩ (hL e (List.mem_cons_self ..))
        refine ih (visit ok c s e) (fun x hx => hL x (List.mem_cons_of_mem _ hx)) hv.1 ?_
        have := hv.2 c hc0
        show 0 ≤ (visit ok c (s.1, s.2) e).1 (ix c)
        rw [this]; exact hc0
    exact bfs_come hs hok n (key _ _ (fun e he => he) m hc.2) (b.pop hs hok)
theorem far_come (hs : w ≤ 10 ∧ h ≤ 10) (hok : ∀ e, ok e → Has w h e.1 e.2) {c : Cel} (hc : Has w h c.1 c.2) : Come w h ok c (far ok c) := by
  refine bfs_come hs hok 100 (fun e hHe he => ?_) ⟨fun a ha => ?_, List.pairwise_singleton _ _, fun a hHa ha b hb => ?_, fun a hHa ha => ?_⟩
  · simp only [gset] at he
    split at he
    · rename_i k; exact .inl ⟨ix_inj hs hHe hc k, by simp [gset, k]⟩
    · omega
  · rw [List.mem_singleton] at ha; subst ha
    exact ⟨hc, by simp [gset]⟩
  · rw [List.mem_singleton] at hb; subst hb
    simp only [gset] at ha ⊢
    split at ha
    · rename_i k; rw [if_pos k]; simp
    · omega
  · simp only [gset] at ha
    split at ha
    · rename_i k; exact .inl (List.mem_singleton.2 (ix_inj hs hHa hc k))
    · omega
end
theorem okS_opn (e : Cel) : okS w h g false e ↔ Opn w h g e.1 e.2 := by
  simp only [okS, Opn, ix]
  constructor
  · rintro ⟨h1, h2⟩; exact ⟨h1, h2.imp id fun k => k.2⟩
  · rintro ⟨h1, h2⟩; exact ⟨h1, h2.imp id fun k => ⟨trivial, k⟩⟩
theorem near_symm {p e : Cel} (hn : e ∈ Near p.1 p.2) : p ∈ Near e.1 e.2 := by
  obtain ⟨x, y⟩ := p
  simp only [Near, List.mem_cons, List.not_mem_nil, or_false] at hn ⊢
  rcases hn with rfl | rfl | rfl | rfl <;> simp
inductive Rch (w h : Int) (g : Nat → Int) (x : Cel) : Nat → Cel → Prop
  | zero : Rch w h g x 0 x
  | step {m : Nat} {p e : Cel} : Rch w h g x m p → e ∈ Near p.1 p.2 → Opn w h g e.1 e.2 → Rch w h g x (m + 1) e
theorem Rch.opn {x e : Cel} {m : Nat} (hx : Opn w h g x.1 x.2) (r : Rch w h g x m e) : Opn w h g e.1 e.2 := by
  cases r with
  | zero => exact hx
  | step _ _ ho => exact ho
theorem steps_self {x : Cel} : steps w h g x (ix x) = 0 := by
  show bfs _ 100 _ (ix x) = 0
  rw [bfs_keep _ _ (by simp [gset])]; simp [gset]
theorem Rch.le (hs : w ≤ 10 ∧ h ≤ 10) {x : Cel} (hx : Opn w h g x.1 x.2) {m : Nat} {e : Cel} (r : Rch w h g x m e) : 0 ≤ steps w h g x (ix e) ∧ steps w h g x (ix e) ≤ m := by
  induction r with
  | zero => rw [steps_self]; simp
  | step r0 hn ho ih =>
    rename_i m p e
    have hp := r0.opn hx
    have h1 := far_closed (ok := okS w h g false) hs (fun e he => he.1) hx.1 p hp.1 ih.1
    have h2 := (h1.resolve_left (fun k => by cases k)) e hn ((okS_opn e).2 ho)
    have h3 := far_flat (ok := okS w h g false) hs (fun e he => he.1) hx.1 p e hp.1 ih.1 hn ((okS_opn e).2 ho) h2
    refine ⟨h2, ?_⟩
    show far (okS w h g false) x (ix e) ≤ _
    have h4 : far (okS w h g false) x (ix p) ≤ m := ih.2
    omega
theorem rch_steps (hs : w ≤ 10 ∧ h ≤ 10) {x : Cel} (hx : Opn w h g x.1 x.2) : ∀ (n : Nat) {e : Cel}, Has w h e.1 e.2 → steps w h g x (ix e) = n → Rch w h g x n e
  | n, e, he, hn => by
    rcases far_come (ok := okS w h g false) hs (fun e he => he.1) hx.1 e he (show 0 ≤ steps w h g x (ix e) by omega) with ⟨k1, k2⟩ | ⟨k1, p, k2, k3, k4⟩
    · have : n = 0 := by
        have : steps w h g x (ix e) = 0 := k2
        omega
      subst this; subst k1; exact .zero
    · have k5 : steps w h g x (ix e) = steps w h g x (ix p) + 1 := k4
      have k6 : 0 ≤ steps w h g x (ix p) := k2.2
      obtain ⟨m, rfl⟩ : ∃ m, n = m + 1 := ⟨n - 1, by omega⟩
      exact .step (rch_steps hs hx m k2.1 (by omega)) k3 ((okS_opn e).1 k1)
theorem Rch.trans {x c e : Cel} {m k : Nat} (r1 : Rch w h g x m c) (r2 : Rch w h g c k e) : Rch w h g x (m + k) e := by
  induction r2 with
  | zero => exact r1
  | step _ hn ho ih => exact .step ih hn ho
theorem Rch.rev {x : Cel} (hx : Opn w h g x.1 x.2) {m : Nat} {e : Cel} (r : Rch w h g x m e) : Rch w h g e m x := by
  induction r with
  | zero => exact .zero
  | step r0 hn ho ih =>
    rename_i m p e
    have h1 : Rch w h g e 1 p := .step .zero (near_symm hn) (r0.opn hx)
    have := h1.trans ih
    rwa [Nat.add_comm 1 m] at this
theorem Rch.split {x : Cel} {n : Nat} {e : Cel} (r : Rch w h g x n e) : ∀ m, m ≤ n → ∃ c, Rch w h g x m c ∧ Rch w h g c (n - m) e := by
  induction r with
  | zero => intro m hm; exact ⟨x, by rw [show m = 0 by omega]; exact .zero, by rw [show 0 - m = 0 by omega]; exact .zero⟩
  | step r0 hn ho ih =>
    rename_i n p e
    intro m hm
    by_cases hmn : m ≤ n
    · obtain ⟨c, h1, h2⟩ := ih m hmn
      exact ⟨c, h1, by rw [show n + 1 - m = n - m + 1 by omega]; exact .step h2 hn ho⟩
    · exact ⟨e, by rw [show m = n + 1 by omega]; exact .step r0 hn ho, by rw [show n + 1 - m = 0 by omega]; exact .zero⟩
theorem steps_nat {x e : Cel} (h0 : 0 ≤ steps w h g x (ix e)) : ∃ n : Nat, steps w h g x (ix e) = n := ⟨(steps w h g x (ix e)).toNat, by omega⟩
end Go.DM
