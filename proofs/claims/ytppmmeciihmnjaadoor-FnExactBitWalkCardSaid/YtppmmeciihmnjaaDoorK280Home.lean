/- Where two robots meet: both sides, the statement. -/
import Derived.Test.YtppmmeciihmnjaaDoorK280Battery
import Derived.Test.YtppmmeciihmnjaaDoorK280Rows
import Derived.Test.YtppmmeciihmnjaaDoorK280Rule
set_option linter.unusedSimpArgs false
set_option linter.unusedVariables false
set_option maxHeartbeats 4000000
namespace Go.DM
open Go.IntWalk
variable {w h : Int} {g : Nat → Int} {cs : List S}

theorem ix_inj (hs : w ≤ 10 ∧ h ≤ 10) {a b : Cel} (ha : Has w h a.1 a.2) (hb : Has w h b.1 b.2) (e : ix a = ix b) : a = b := by
  simp only [Has] at ha hb
  simp only [ix] at e
  exact Prod.ext (by omega) (by omega)
/-- Where steps come, they may go. -/
theorem bfs_ok {ok : Cel → Prop} [DecidablePred ok] (hs : w ≤ 10 ∧ h ≤ 10) (hok : ∀ e, ok e → Has w h e.1 e.2) {R : Cel → Prop} (hR : ∀ e, ok e → R e) : ∀ (n : Nat) {s : (Nat → Int) × List Cel}, (∀ e, Has w h e.1 e.2 → 0 ≤ s.1 (ix e) → R e) → ∀ e, Has w h e.1 e.2 → 0 ≤ bfs ok n s (ix e) → R e
  | 0, s, b, e, he, h0 => b e he h0
  | n + 1, (d, []), b, e, he, h0 => b e he h0
  | n + 1, (d, c :: r), b, e, he, h0 => by
    have key : ∀ (L : List Cel) (s : (Nat → Int) × List Cel), (∀ e, Has w h e.1 e.2 → 0 ≤ s.1 (ix e) → R e) → ∀ e, Has w h e.1 e.2 → 0 ≤ (L.foldl (visit ok c) s).1 (ix e) → R e := by
      intro L
      induction L with
      | nil => intro s b; exact b
      | cons a L ih =>
        intro s b
        refine ih _ ?_
        intro e he
        unfold visit
        split
        · rename_i hh
          intro h1
          simp only [gset] at h1
          split at h1
          · rename_i h2; rw [ix_inj hs he (hok a hh.1) h2]; exact hR a hh.1
          · exact b e he h1
        · exact b e he
    exact bfs_ok hs hok hR n (key (Near c.1 c.2) (d, r) b) e he h0
theorem steps_open (hs : w ≤ 10 ∧ h ≤ 10) {c : Cel} (hc : Opn w h g c.1 c.2) {e : Cel} (he : Has w h e.1 e.2) (h0 : 0 ≤ steps w h g c (ix e)) : Opn w h g e.1 e.2 := by
  refine bfs_ok (R := fun e => Opn w h g e.1 e.2) hs (fun e he => he.1) (fun e he => ⟨he.1, he.2.imp id fun h => h.2⟩) 100 ?_ e he h0
  intro a ha h1
  simp only [gset] at h1
  split at h1
  · rename_i h2; rw [ix_inj hs ha hc.1 h2]; exact hc
  · omega
def meet (X Y : Nat → Int) (s : Cel × Int) (c : Cel) : Cel × Int := if (0 ≤ X (ix c) ∧ 0 ≤ Y (ix c)) ∧ (s.2 < 0 ∨ max (X (ix c)) (Y (ix c)) < s.2) then (c, max (X (ix c)) (Y (ix c))) else s
theorem meet_yes {X Y : Nat → Int} {s : Cel × Int} {c : Cel} (hh : (0 ≤ X (ix c) ∧ 0 ≤ Y (ix c)) ∧ (s.2 < 0 ∨ max (X (ix c)) (Y (ix c)) < s.2)) : meet X Y s c = (c, max (X (ix c)) (Y (ix c))) := by unfold meet; rw [if_pos hh]
theorem meet_no {X Y : Nat → Int} {s : Cel × Int} {c : Cel} (hh : ¬ ((0 ≤ X (ix c) ∧ 0 ≤ Y (ix c)) ∧ (s.2 < 0 ∨ max (X (ix c)) (Y (ix c)) < s.2))) : meet X Y s c = s := by unfold meet; rw [if_neg hh]
def meetF (w h : Int) (g : Nat → Int) (a b : Cel) : Cel × Int := (allC w h).foldl (meet (steps w h g a) (steps w h g b)) ((0, 0), -1)
theorem meetF_open (hs : w ≤ 10 ∧ h ≤ 10) {a b : Cel} (ha : Opn w h g a.1 a.2) : (those w h fun c => Opn w h g c.1 c.2).foldl (meet (steps w h g a) (steps w h g b)) ((0, 0), -1) = meetF w h g a b := by
  unfold those meetF
  have key : ∀ (L : List Cel) (s : Cel × Int), (∀ e ∈ L, Has w h e.1 e.2) → (L.filter fun c => decide (Opn w h g c.1 c.2)).foldl (meet (steps w h g a) (steps w h g b)) s = L.foldl (meet (steps w h g a) (steps w h g b)) s := by
    intro L
    induction L with
    | nil => intro s _; rfl
    | cons e L ih =>
      intro s hL
      rw [List.filter_cons, List.foldl_cons]
      split
      · rw [List.foldl_cons]; exact ih _ fun e he => hL e (List.mem_cons_of_mem _ he)
      · rename_i hno
        rw [meet_no (s := s) (c := e) fun hh => hno (by simpa using steps_open hs ha (hL e (List.mem_cons_self ..)) hh.1.1)]
        exact ih _ fun e he => hL e (List.mem_cons_of_mem _ he)
  exact key _ _ fun e he => allC_mem he
def open2 (w h : Int) (g : Nat → Int) (a b : Cel) : Int := belowCode (LawnOk w h g) (Has w h a.1 a.2 ∧ Has w h b.1 b.2) (Opn w h g a.1 a.2 ∧ Opn w h g b.1 b.2)
theorem open2_impl (a b : Cel) : belowCode (LawnOk w h g) (∀ e ∈ ([a, b] : List Cel), Has w h e.1 e.2) (∀ e ∈ ([a, b] : List Cel), Opn w h g e.1 e.2) = open2 w h g a b := belowCode_congr Iff.rfl (by simp) (by simp)
theorem open2_spec (a b : Cel) : belowCode (LawnOk w h g) (true = true ∧ ∀ e ∈ ([a, b] : List Cel), Has w h e.1 e.2) (∀ e ∈ ([a, b] : List Cel), Opn w h g e.1 e.2) = open2 w h g a b := belowCode_congr Iff.rfl (by simp) (by simp)
theorem open2_ok {a b : Cel} (h0 : open2 w h g a b = 0) : (1 ≤ w ∧ w ≤ 10 ∧ 1 ≤ h ∧ h ≤ 10) ∧ Opn w h g a.1 a.2 ∧ Opn w h g b.1 b.2 := by
  obtain ⟨h1, h2, h3⟩ := belowCode_zero.1 h0
  exact ⟨⟨h1.1.1, h1.1.2, h1.2.1.1, h1.2.1.2⟩, h3⟩
def meetRes (w h : Int) (g : Nat → Int) (a b : Cel) : Res :=
  if open2 w h g a b = 0 then (if (meetF w h g a b).2 < 0 then ⟨[.agg [.int .i8 0, .int .i8 0], .s (.int .i64 0), .s (.int .i64 6)], []⟩ else ⟨[.agg [.int .i8 (meetF w h g a b).1.1, .int .i8 (meetF w h g a b).1.2], .s (.int .i64 (meetF w h g a b).2), .s (.int .i64 0)], []⟩)
  else ⟨[.agg [.int .i8 0, .int .i8 0], .s (.int .i64 0), .s (.int .i64 (open2 w h g a b))], []⟩
end Go.DM

/- More rules: two cells that are compared. -/
set_option linter.unusedSimpArgs false
set_option linter.unusedVariables false
namespace Go.DM
theorem noPar_mixT {σ σ0 : St} {o : Nat} {L LO : List Nat} (hn : has LO o = true) (h : noPar σ0 [o] = true) : noPar (mix L LO σ0 σ) [o] = true := by
  rw [noPar_one] at h ⊢
  intro cs' e
  simp only [mix, hn, cond_true] at e
  exact h _ e
section
variable {Γ : Nat → Option Fn} {dsts : Nat → Option Nat} {ops : List Oper} {Q : St → Prop} {σ : St} {d : Option Nat} {g : Option (Nat × Bool)} {l1 l2 l3 l4 : List Nat}
theorem en_q {σ : St} {a b : Opd} {x y x' y' : Int} (ha : ev σ.env a = .a (.d (.agg [.int .i8 x, .int .i8 y]))) (hb : ev σ.env b = .a (.d (.agg [.int .i8 x', .int .i8 y']))) : quiet σ (.eqa true true [.int .i8, .int .i8] a b) = some (.a (.d (.s (.bool (decide (¬ (x = x' ∧ y = y'))))))) := by
  have e : ∀ p q : Int, (p == q) = decide (p = q) := fun p q => rfl
  by_cases h1 : x = x' <;> by_cases h2 : y = y' <;> simp [quiet, ha, hb, cellsA, hasKs, hasK, eqSs, eqS, sv, e, h1, h2]
theorem WR.en {a b : Opd} {x y x' y' : Int} (hw : wanted dsts σ.env g = some true) (ha : ev σ.env a = .a (.d (.agg [.int .i8 x, .int .i8 y]))) (hb : ev σ.env b = .a (.d (.agg [.int .i8 x', .int .i8 y'])))
    (k1 : ¬ (x = x' ∧ y = y') → WR Γ dsts ops Q (set d (.a (.d (.s (.bool true)))) σ)) (k2 : x = x' ∧ y = y' → WR Γ dsts ops Q (set d (.a (.d (.s (.bool false)))) σ)) : WR Γ dsts (⟨d, .eqa true true [.int .i8, .int .i8] a b, g, l1, l2, l3, l4⟩ :: ops) Q σ := by
  by_cases h : x = x' ∧ y = y'
  · exact WR.q hw (by rw [en_q ha hb]; simp only [h, and_self, not_true, decide_false]) (k2 h)
  · exact WR.q hw (by rw [en_q ha hb]; simp only [h, not_false_eq_true, decide_true]) (k1 h)
theorem WH.en {a b : Opd} {x y x' y' : Int} (hw : wanted dsts (kill l1 (only l3 σ)).env g = some true) (ha : ev (kill l1 (only l3 σ)).env a = .a (.d (.agg [.int .i8 x, .int .i8 y]))) (hb : ev (kill l1 (only l3 σ)).env b = .a (.d (.agg [.int .i8 x', .int .i8 y'])))
    (k1 : ¬ (x = x' ∧ y = y') → WH Γ dsts ops Q (set d (.a (.d (.s (.bool true)))) σ)) (k2 : x = x' ∧ y = y' → WH Γ dsts ops Q (set d (.a (.d (.s (.bool false)))) σ)) : WH Γ dsts (⟨d, .eqa true true [.int .i8, .int .i8] a b, g, l1, l2, l3, l4⟩ :: ops) Q σ := by
  by_cases h : x = x' ∧ y = y'
  · exact WH.q hw (by rw [show veil _ σ = kill l1 (only l3 σ) from rfl, en_q ha hb]; simp only [h, and_self, not_true, decide_false]) rfl (k2 h)
  · exact WH.q hw (by rw [show veil _ σ = kill l1 (only l3 σ) from rfl, en_q ha hb]; simp only [h, not_false_eq_true, decide_true]) rfl (k1 h)
/-- Two bools are compared. -/
theorem eb_q {σ : St} {ng : Bool} {a b : Opd} {x y : Bool} (ha : ev σ.env a = .a (.d (.s (.bool x)))) (hb : ev σ.env b = .a (.d (.s (.bool y)))) : quiet σ (.eqa ng false [.bool] a b) = some (.a (.d (.s (.bool ((x == y) != ng))))) := by
  cases ng <;> cases x <;> cases y <;> simp [quiet, ha, hb, cellsA, hasKs, hasK, eqSs, eqS, sv]
theorem WR.ebb {ng : Bool} {a b : Opd} {x y : Bool} (hw : wanted dsts σ.env g = some true) (ha : ev σ.env a = .a (.d (.s (.bool x)))) (hb : ev σ.env b = .a (.d (.s (.bool y))))
    (K : WR Γ dsts ops Q (set d (.a (.d (.s (.bool ((x == y) != ng))))) σ)) : WR Γ dsts (⟨d, .eqa ng false [.bool] a b, g, l1, l2, l3, l4⟩ :: ops) Q σ := WR.q hw (eb_q ha hb) K
theorem WH.ebb {ng : Bool} {a b : Opd} {x y : Bool} (hw : wanted dsts (kill l1 (only l3 σ)).env g = some true) (ha : ev (kill l1 (only l3 σ)).env a = .a (.d (.s (.bool x)))) (hb : ev (kill l1 (only l3 σ)).env b = .a (.d (.s (.bool y))))
    (K : WH Γ dsts ops Q (set d (.a (.d (.s (.bool ((x == y) != ng))))) σ)) : WH Γ dsts (⟨d, .eqa ng false [.bool] a b, g, l1, l2, l3, l4⟩ :: ops) Q σ := WH.q hw (eb_q ha hb) rfl K
end
end Go.DM

/- The way home: both sides, the statement. -/
set_option linter.unusedSimpArgs false
set_option linter.unusedVariables false
set_option maxHeartbeats 4000000
namespace Go.DM
open Go.IntWalk
variable {w h : Int} {g : Nat → Int} {cs : List S}

theorem visit_keep {ok : Cel → Prop} [DecidablePred ok] {c : Cel} {k : Nat} : ∀ (L : List Cel) (s : (Nat → Int) × List Cel), 0 ≤ s.1 k → (L.foldl (visit ok c) s).1 k = s.1 k
  | [], s, _ => rfl
  | e :: r, s, h0 => by
    have h1 : (visit ok c s e).1 k = s.1 k := by
      unfold visit; split
      · rename_i hh; simp only [gset]; rw [if_neg]; intro e2; rw [e2] at h0; omega
      · rfl
    rw [List.foldl_cons, visit_keep r _ (by omega), h1]
theorem bfs_keep {ok : Cel → Prop} [DecidablePred ok] {k : Nat} : ∀ (n : Nat) (s : (Nat → Int) × List Cel), 0 ≤ s.1 k → bfs ok n s k = s.1 k
  | 0, s, _ => rfl
  | n + 1, (d, []), _ => rfl
  | n + 1, (d, c :: r), h0 => by
    have h1 := visit_keep (ok := ok) (c := c) (k := k) (Near c.1 c.2) (d, r) h0
    show bfs ok n _ k = d k
    rw [bfs_keep n _ (by rw [h1]; exact h0), h1]
/-- Each cell to which steps come, but for the first one, is beside one to which one step less leads. -/
def Pred (w h : Int) (c0 : Cel) (d : Nat → Int) : Prop := ∀ e, Has w h e.1 e.2 → 0 ≤ d (ix e) → e = c0 ∨ ∃ p ∈ Near e.1 e.2, Has w h p.1 p.2 ∧ 0 ≤ d (ix p) ∧ d (ix e) = d (ix p) + 1
theorem near_sym {a b : Cel} (h : a ∈ Near b.1 b.2) : b ∈ Near a.1 a.2 := by
  simp only [Near, List.mem_cons, List.not_mem_nil, or_false] at h ⊢
  rcases h with rfl | rfl | rfl | rfl
  · refine .inr (.inr (.inr ?_)); exact Prod.ext rfl (by simp)
  · refine .inr (.inr (.inl ?_)); exact Prod.ext (by simp) rfl
  · refine .inr (.inl ?_); exact Prod.ext (by simp) rfl
  · refine .inl ?_; exact Prod.ext rfl (by simp)
theorem visit_pred {ok : Cel → Prop} [DecidablePred ok] (hs : w ≤ 10 ∧ h ≤ 10) (hok : ∀ e, ok e → Has w h e.1 e.2) {c0 c : Cel} (hc : Has w h c.1 c.2) : ∀ (L : List Cel) (s : (Nat → Int) × List Cel), (∀ e ∈ L, e ∈ Near c.1 c.2) → 0 ≤ s.1 (ix c) → Pred w h c0 s.1 → Pred w h c0 (L.foldl (visit ok c) s).1
  | [], s, _, _, b => b
  | a :: r, s, hL, h0, b => by
    rw [List.foldl_cons]
    have h1 := visit_keep (ok := ok) (c := c) (k := ix c) [a] s h0
    refine visit_pred hs hok hc r _ (fun e he => hL e (List.mem_cons_of_mem _ he)) (by simp only [List.foldl_cons, List.foldl_nil] at h1; omega) ?_
    unfold visit
    split
    · rename_i hh
      show Pred w h c0 (gset s.1 (ix a) (s.1 (ix c) + 1))
      intro e he h2
      have hne : ∀ k, 0 ≤ s.1 k → gset s.1 (ix a) (s.1 (ix c) + 1) k = s.1 k := fun k hk => by
        simp only [gset]; rw [if_neg]; intro e2; rw [e2] at hk; omega
      by_cases hea : e = a
      · subst hea
        refine .inr ⟨c, near_sym (hL e (List.mem_cons_self ..)), hc, by rw [hne _ h0]; exact h0, ?_⟩
        rw [hne _ h0]; simp [gset]
      · have hix : ix e ≠ ix a := fun e2 => hea (ix_inj hs he (hok a hh.1) e2)
        have h3 : gset s.1 (ix a) (s.1 (ix c) + 1) (ix e) = s.1 (ix e) := by simp only [gset]; rw [if_neg hix]
        rw [h3] at h2 ⊢
        rcases b e he h2 with h4 | ⟨p, hp, hp1, hp2, hp3⟩
        · exact .inl h4
        · exact .inr ⟨p, hp, hp1, by rw [hne _ hp2]; exact hp2, by rw [hne _ hp2]; exact hp3⟩
    · exact b
theorem bfs_pred {ok : Cel → Prop} [DecidablePred ok] (hs : w ≤ 10 ∧ h ≤ 10) (hok : ∀ e, ok e → Has w h e.1 e.2) {c0 : Cel} : ∀ (n : Nat) {s : (Nat → Int) × List Cel}, BInv w h s.1 s.2 → Pred w h c0 s.1 → Pred w h c0 (bfs ok n s)
  | 0, s, _, b => b
  | n + 1, (d, []), _, b => b
  | n + 1, (d, c :: r), i, b => by
    have hc := i.q c (List.mem_cons_self ..)
    have h1 := fold_inv hs hok (Near c.1 c.2) (s := (d, r)) i
    exact bfs_pred hs hok n ⟨h1.lo, h1.hi, fun a ha => h1.q a (List.mem_cons_of_mem _ ha), by have := h1.len; rw [List.length_cons] at this; omega⟩ (visit_pred hs hok hc.1 (Near c.1 c.2) (d, r) (fun e he => he) hc.2 b)
theorem steps_home {c : Cel} : steps w h g c (ix c) = 0 := by
  show bfs _ 100 _ (ix c) = 0
  rw [bfs_keep _ _ (by simp [gset])]; simp [gset]
theorem steps_pred (hs : w ≤ 10 ∧ h ≤ 10) {c : Cel} (hc : Has w h c.1 c.2) : Pred w h c (steps w h g c) := by
  refine bfs_pred hs (fun e he => he.1) 100 (BInv.first hs hc).1 ?_
  intro e he h0
  simp only [gset] at h0
  split at h0
  · rename_i h2; exact .inl (ix_inj hs he hc h2)
  · omega
def nextP (w h : Int) (d : Nat → Int) (c e : Cel) : Prop := Has w h e.1 e.2 ∧ d (ix e) = d (ix c) - 1
instance (w h : Int) (d : Nat → Int) (c : Cel) : DecidablePred (nextP w h d c) := fun e => inferInstanceAs (Decidable (_ ∧ _))
def nextH (w h : Int) (d : Nat → Int) (c : Cel) : Option Cel := (Near c.1 c.2).find? fun e => decide (nextP w h d c e)
def homeP (w h : Int) (d : Nat → Int) : Nat → Cel → List Cel
  | 0, _ => []
  | n + 1, c => match nextH w h d c with
    | some e => e :: homeP w h d n e
    | none => []
theorem find_first {α : Type} {p : α → Bool} : ∀ {l : List α} {j : Nat} {e : α}, l[j]? = some e → p e = true → (∀ x ∈ l.take j, p x = false) → l.find? p = some e
  | [], j, e, h, _, _ => by simp at h
  | x :: r, 0, e, h, hp, _ => by simp at h; subst h; simp [hp]
  | x :: r, j + 1, e, h, hp, hn => by
    have h1 := hn x (by simp)
    rw [List.find?_cons, h1]
    exact find_first (by simpa using h) hp fun y hy => hn y (by rw [List.take_succ_cons]; exact List.mem_cons_of_mem _ hy)
theorem find_filter {α : Type} {p q : α → Bool} (hq : ∀ x, p x = true → q x = true) : ∀ l : List α, (l.filter q).find? p = l.find? p
  | [] => rfl
  | x :: r => by
    rw [List.filter_cons, List.find?_cons]
    cases hp : p x with
    | true => rw [if_pos (hq x hp), List.find?_cons, hp]
    | false =>
      split
      · rw [List.find?_cons, hp]; exact find_filter hq r
      · exact find_filter hq r
theorem nextH_inside (d : Nat → Int) (c : Cel) : (inside w h (Near c.1 c.2)).find? (fun e => decide (nextP w h d c e)) = nextH w h d c := by
  unfold inside nextH
  exact find_filter (fun e he => by have h1 : nextP w h d c e := by simpa using he
                                    simpa using h1.1) _
/-- What is true of steps to a home. -/
structure Homes (w h : Int) (g : Nat → Int) (c0 : Cel) (d : Nat → Int) : Prop where
  home : d (ix c0) = 0
  pred : Pred w h c0 d
  b : ∀ k, -1 ≤ d k ∧ d k ≤ 100
  op : ∀ e, Has w h e.1 e.2 → 0 ≤ d (ix e) → Opn w h g e.1 e.2
theorem steps_homes (hs : w ≤ 10 ∧ h ≤ 10) {c : Cel} (hc : Opn w h g c.1 c.2) : Homes w h g c (steps w h g c) := ⟨steps_home, steps_pred hs hc.1, steps_b hs hc.1, fun _ he h0 => steps_open hs hc he h0⟩
theorem Homes.next {c0 c : Cel} {d : Nat → Int} (H : Homes w h g c0 d) (hc : Has w h c.1 c.2) (h0 : 0 ≤ d (ix c)) (hne : c ≠ c0) : 1 ≤ d (ix c) ∧ ∃ p ∈ Near c.1 c.2, nextP w h d c p := by
  rcases H.pred c hc h0 with h1 | ⟨p, hp, h1, h2, h3⟩
  · exact absurd h1 hne
  · exact ⟨by omega, p, hp, h1, by omega⟩
theorem homeP_step {d : Nat → Int} {c e : Cel} (h1 : 1 ≤ d (ix c)) (hn : nextH w h d c = some e) (he : d (ix e) = d (ix c) - 1) : homeP w h d (d (ix c)).toNat c = e :: homeP w h d (d (ix e)).toNat e := by
  rw [show (d (ix c)).toNat = (d (ix e)).toNat + 1 by omega, homeP, hn]
/-- The way home. -/
def wayHome (w h : Int) (g : Nat → Int) (a home : Cel) : List Cel := [a] ++ homeP w h (steps w h g home) (steps w h g home (ix a)).toNat a
theorem homeP_len (d : Nat → Int) : ∀ (n : Nat) (c : Cel), (homeP w h d n c).length ≤ n
  | 0, c => by simp [homeP]
  | n + 1, c => by
    simp only [homeP]
    split
    · rw [List.length_cons]; have := homeP_len d n (by assumption); omega
    · simp
end Go.DM
