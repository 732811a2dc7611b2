/- Rows of two walks; walks that are right, on both sides. -/
import Derived.Test.YtaocbbdkiemhaaaK357Trap
set_option linter.unusedSimpArgs false
set_option linter.unusedVariables false
set_option maxHeartbeats 4000000
namespace Go.DM
set_option linter.unusedSectionVars false
variable [Tok]
open Go.IntWalk
section
variable {Γ : Nat → Option Fn} {dsts : Nat → Option Nat} {ops : List Oper} {Q : St → Prop} {σ : St} {d : Option Nat} {g : Option (Nat × Bool)} {l1 l2 l3 l4 : List Nat}
theorem noPar_putr {o p : Nat} {xs : List A} (h : noPar σ [o] = true) : noPar (put p (.row xs) σ) [o] = true := by
  rw [noPar_one] at h ⊢
  intro cs' e
  simp only [put, upd] at e
  split at e
  · cases e
  · exact h _ e
theorem WR.bw {e : Nat} {a0 a1 : Opd} {x0 x1 : A} (hw : wanted dsts σ.env g = some true) (h0 : partV (ev σ.env a0) = some x0) (h1 : partV (ev σ.env a1) = some x1) (hd0 : deadA [e] x0 = false) (hd1 : deadA [e] x1 = false) (hp : noPar σ [e] = true)
    (k : WR Γ dsts ops Q (set (some e) (.a (.sl e 0 2 1)) (put e (.row [x0, x1]) (kill [e] σ)))) : WR Γ dsts (⟨some e, .bslr 2 [(0, a0), (1, a1)], g, l1, l2, l3, l4⟩ :: ops) Q σ :=
  WR.mk (d := e) (ob := .row [x0, x1]) hw rfl rfl (by simp [makes, all?, h0, h1, inOrder, hd0, hd1]) hp k
theorem WR.rn {p n e : Nat} {a : Opd} {cs : List S} (hw : wanted dsts σ.env g = some true) (ha : ev σ.env a = .a (.sl p 0 n 2)) (ho : σ.objs p = some (.flat false cs)) (hne : Nat.beq p e = false) (hp : noPar σ [p] = true) (hp' : noPar σ [e] = true)
    (k : WR Γ dsts ops Q (set (some e) (.a (.sl e 0 n 2)) (put e (.flat false cs) (kill [p, e] σ)))) : WR Γ dsts (⟨some e, .ren a, g, l1, l2, l3, l4⟩ :: ops) Q σ := by
  have hne' : p ≠ e := Nat.ne_of_beq_eq_false hne
  refine WR.cons ⟨0, step_dl (r := ⟨.a (.sl e 0 n 2), [p, e], [(e, .flat false cs)]⟩) hw (by simp only [delta, ha, ho]; rw [if_neg hne']) ?_⟩ k
  simp only [noPar, List.all_cons, List.all_nil, Bool.and_true, Bool.and_eq_true] at hp hp' ⊢
  exact ⟨hp, hp'⟩
theorem elemsC {objs : Nat → Option Ob} {v : V} {m : List Cel} (hv : v = .a (.d (.sl m.length 2 (encC m)))) : elems objs 2 v = some (m.length, encC m) := by
  subst hv; simp only [elems]; rw [if_pos ⟨trivial, encC_length m⟩]
theorem elemsCo {objs : Nat → Option Ob} {v : V} {m : List Cel} {o : Nat} {b : Bool} (hv : v = .a (.sl o 0 m.length 2)) (ho : objs o = some (.flat b (encC m))) : elems objs 2 v = some (m.length, encC m) := by
  subst hv
  have hl := encC_length m
  simp only [elems, ho]; rw [if_pos ⟨trivial, by omega⟩, List.drop_zero, ← hl, List.take_length]
theorem WR.apA {p n : Nat} {a b : Opd} {l m : List Cel} (hw : wanted dsts σ.env g = some true) (ha : ev σ.env a = .a (.sl p 0 n 2)) (ho : σ.objs p = some (.flat false (encC l))) (hn : n = l.length) (hb : elems σ.objs 2 (ev σ.env b) = some (m.length, encC m)) (h2 : l.length + m.length ≤ 3000000)
    (k : WR Γ dsts ops Q (set d (.a (.sl p 0 (l ++ m).length 2)) (put p (.flat false (encC (l ++ m))) (kill [p] σ)))) : WR Γ dsts (⟨d, .app 2 a b, g, l1, l2, l3, l4⟩ :: ops) Q σ := by
  subst hn
  have hl := encC_length l
  refine WR.ap hw ha ho hb (by omega) (by simp only [big]; omega) (by rw [noPar_one]; intro cs e; rw [ho] at e; cases e) ?_
  rw [List.drop_zero, show l.length * 2 = (encC l).length by omega, List.take_length, ← encC_append, ← List.length_append]
  exact k
theorem toD_row2 {k : Nat} {objs : Nat → Option Ob} {v : V} {o : Nat} {x y : A} {d1 d2 : D} (hv : v = .a (.sl o 0 2 1)) (ho : objs o = some (.row [x, y])) (h1 : toDV objs k (.a x) = some d1) (h2 : toDV objs k (.a y) = some d2) : toDV objs (k + 1) v = some (.sld [d1, d2]) := by
  subst hv
  simp [toDV, toDA, ho, all?, h1, h2]
end

/-- Two walks. -/
def wD (c : List Cel) : D := .sl c.length 2 (encC c)
def aws (a b : List Cel) : Arg := .d (.sld [wD a, wD b])

variable {w h : Int} {g : Nat → Int} {cs : List S}
/-- Where a robot is; robots that clash. -/
def whr (a : List Cel) (t : Nat) : Cel := gC a (min t (a.length - 1))
def Clash (a b : List Cel) (t : Nat) : Prop := whr a t = whr b t ∨ (0 < t ∧ whr a t = whr b (t - 1) ∧ whr a (t - 1) = whr b t)
instance (a b : List Cel) (t : Nat) : Decidable (Clash a b t) := inferInstanceAs (Decidable (_ ∨ _))

theorem at_gives (a : List Cel) (t : Int) (ha : 1 ≤ a.length ∧ a.length ≤ 100000) (ht : 0 ≤ t ∧ t ≤ 100000) : Gives G 185 [asl a, ai .i64 t] ⟨[.agg [.int .i8 (whr a t.toNat).1, .int .i8 (whr a t.toNat).2]], []⟩ := by
  refine Gives.by rfl rfl (W.seq ?_)
  repeat' first | ((with_reducible apply WR.mv); exact rfl; exact rfl) | ((with_reducible apply WR.nil)) | (with_reducible refine andThen_n ?_) | (with_reducible refine W.seq ?_) | (with_reducible refine W.region ?_) | (with_reducible refine W.ret ?_) | ((with_reducible apply Done.f); (intro hh hh2; exact (nomatch hh2)); (focus ((repeat' first | exact all_nil | apply all_cons | exact res_cell rfl rfl (by first | exact rfl) | exact rfl); done)); (focus ((repeat' first | exact all_nil | apply all_cons | exact retOf_a rfl | exact rfl); done)); exact rfl; (focus ((repeat' first | exact outs_nil | apply outs_d | exact rfl); done))) | ((with_reducible apply WR.sb); exact rfl; exact rfl; exact rfl; (first | exact i64_in _ (by omega))) | ((with_reducible apply WR.mi); exact rfl; exact rfl; exact rfl) | ((with_reducible apply WR.id); exact rfl; exact rfl; exact rfl; omega; (first | exact Nat.le_of_eq (encC_length _).symm)) | ((with_reducible apply WR.ldd); exact rfl; exact rfl; (first | exact ldCd (by first | omega))) | ((with_reducible apply WR.le); exact rfl; exact rfl) | ((with_reducible apply WR.al); exact rfl; (first | exact rfl)) | ((with_reducible apply WR.st); exact rfl; exact rfl; exact rfl; exact st2)
  all_goals
    unfold whr
    rw [show (min t (↑a.length - 1)).toNat = min t.toNat (a.length - 1) by omega]
    rfl
theorem where_gives (a : List Cel) (t : Int) (ha : 1 ≤ a.length ∧ a.length ≤ 100000) (ht : 0 ≤ t ∧ t ≤ 100000) : Gives G 188 [asl a, ai .i64 t] ⟨[.agg [.int .i8 (whr a t.toNat).1, .int .i8 (whr a t.toNat).2]], []⟩ := by
  refine Gives.by rfl rfl (W.seq ?_)
  repeat' first | ((with_reducible apply WR.mv); exact rfl; exact rfl) | ((with_reducible apply WR.nil)) | (with_reducible refine andThen_n ?_) | (with_reducible refine andThen_r ?_) | (with_reducible refine W.seq ?_) | (with_reducible refine W.region ?_) | (with_reducible refine W.skip ?_) | (with_reducible refine W.ret ?_) | ((with_reducible apply W.condT); exact rfl) | ((with_reducible apply W.condF); exact rfl) | ((with_reducible apply Done.f); (intro hh hh2; exact (nomatch hh2)); (focus ((repeat' first | exact all_nil | apply all_cons | exact res_cell rfl rfl (by first | exact rfl) | exact rfl); done)); (focus ((repeat' first | exact all_nil | apply all_cons | exact retOf_a rfl | exact rfl); done)); exact rfl; (focus ((repeat' first | exact outs_nil | apply outs_d | exact rfl); done))) | (intro hb; try (exfalso; omega)) | ((with_reducible apply WR.id); exact rfl; exact rfl; exact rfl; omega; (first | exact Nat.le_of_eq (encC_length _).symm)) | ((with_reducible apply WR.ldd); exact rfl; exact rfl; (first | exact ldCd (by first | omega))) | ((with_reducible apply WR.le); exact rfl; exact rfl) | ((with_reducible apply WR.st); exact rfl; exact rfl; exact rfl; exact st2) | ((with_reducible apply WR.geq); exact rfl; exact rfl; exact rfl) | ((with_reducible apply WR.sb); exact rfl; exact rfl; exact rfl; (first | exact i64_in _ (by omega))) | ((with_reducible apply WR.al); exact rfl; (first | exact rfl))
  · unfold whr
    rw [show ((a.length : Int) - 1).toNat = min t.toNat (a.length - 1) by omega]
    rfl
  · unfold whr
    rw [show min t.toNat (a.length - 1) = t.toNat by omega]
    rfl
theorem toNat_pred (t : Nat) : ((t : Int) - 1).toNat = t - 1 := by omega
theorem cel_eq {p q : Cel} : p = q ↔ p.1 = q.1 ∧ p.2 = q.2 := ⟨fun h => by rw [h]; exact ⟨rfl, rfl⟩, fun h => Prod.ext h.1 h.2⟩
theorem clash_gives (a b : List Cel) (t : Nat) (ha : 1 ≤ a.length ∧ a.length ≤ 100000) (hb : 1 ≤ b.length ∧ b.length ≤ 100000) (ht : t ≤ 100000) : Gives G 172 [asl a, asl b, ai .i64 t] (rb (decide (Clash a b t))) := by
  refine Gives.by rfl rfl (W.seq ?_)
  repeat' first | ((with_reducible apply WR.c_a (f := 185) (fn := Code.f185)); exact rfl; exact rfl; exact rfl; (first | exact rfl); (focus ((repeat' first | exact args_nil | apply args_d | exact toD_d rfl | exact all_nil | apply all_cons | exact rfl); done)); exact at_gives _ _ (by omega) (by omega)) | ((with_reducible apply WR.mv); exact rfl; exact rfl) | ((with_reducible apply WR.off); exact rfl) | ((with_reducible apply WR.ec); exact rfl; exact rfl; exact rfl) | ((with_reducible apply WR.pk); exact rfl; exact rfl) | ((with_reducible apply WR.nil)) | (with_reducible refine andThen_n ?_) | (with_reducible refine W.seq ?_) | (with_reducible refine W.region ?_) | (with_reducible refine W.ret ?_) | ((with_reducible apply Done.f); (intro hh hh2; exact (nomatch hh2)); (focus ((repeat' first | exact all_nil | apply all_cons | exact res_tmp rfl | exact rfl); done)); (focus ((repeat' first | exact all_nil | apply all_cons | exact retOf_s rfl | exact rfl); done)); exact rfl; (focus ((repeat' first | exact outs_nil | apply outs_d | exact rfl); done))) | (intro hb; try (exfalso; omega)) | ((with_reducible apply WR.sb); exact rfl; exact rfl; exact rfl; (first | exact i64_in _ (by omega))) | ((with_reducible apply WR.gtr); exact rfl; exact rfl; exact rfl)
  all_goals
    simp only [Int.toNat_natCast, toNat_pred] at *
    first
      | exact rb_t (by simp only [Clash, cel_eq]; omega)
      | exact rb_f (by simp only [Clash, cel_eq]; omega)
theorem meet_gives (a b : List Cel) (t : Nat) (ha : 1 ≤ a.length ∧ a.length ≤ 100000) (hb : 1 ≤ b.length ∧ b.length ≤ 100000) (ht : t ≤ 100000) : Gives G 180 [asl a, asl b, ai .i64 t] (rb (decide (Clash a b t))) := by
  refine Gives.by rfl rfl (W.seq ?_)
  repeat' first | ((with_reducible apply WR.c_a (f := 188) (fn := Code.f188)); exact rfl; exact rfl; exact rfl; (first | exact rfl); (focus ((repeat' first | exact args_nil | apply args_d | exact toD_d rfl | exact all_nil | apply all_cons | exact rfl); done)); exact where_gives _ _ (by omega) (by omega)) | ((with_reducible apply WH.c_a (f := 188) (fn := Code.f188)); exact rfl; exact rfl; exact rfl; (first | exact rfl); (focus ((repeat' first | exact args_nil | apply args_d | exact toD_d rfl | exact all_nil | apply all_cons | exact rfl); done)); exact where_gives _ _ (by omega) (by omega); exact rfl) | ((with_reducible apply WH.mv); exact rfl; exact rfl; exact rfl) | ((with_reducible apply WR.mv); exact rfl; exact rfl) | ((with_reducible apply WH.off); exact rfl) | ((with_reducible apply WR.nil)) | (with_reducible refine andThen_n ?_) | (with_reducible refine andThen_r ?_) | (with_reducible refine W.seq ?_) | (with_reducible refine W.region ?_) | (with_reducible refine W.skip ?_) | (with_reducible refine W.ret ?_) | ((with_reducible apply W.condT); exact rfl) | ((with_reducible apply W.condF); exact rfl) | ((with_reducible apply Done.f); (intro hh hh2; exact (nomatch hh2)); (focus ((repeat' first | exact all_nil | apply all_cons | exact res_tmp rfl | exact rfl); done)); (focus ((repeat' first | exact all_nil | apply all_cons | exact retOf_s rfl | exact rfl); done)); exact rfl; (focus ((repeat' first | exact outs_nil | apply outs_d | exact rfl); done))) | ((with_reducible apply WH.nil)) | (with_reducible refine W.draw ?_) | (intro hb; try (exfalso; omega)) | ((with_reducible apply WR.ld); exact rfl; exact rfl; exact rfl; (first | exact ld2)) | ((with_reducible apply WR.al); exact rfl; (first | exact rfl)) | ((with_reducible apply WR.st); exact rfl; exact rfl; exact rfl; exact st2) | ((with_reducible apply WH.ec); exact rfl; exact rfl; exact rfl) | ((with_reducible apply WH.sb); exact rfl; exact rfl; exact rfl; (first | exact i64_in _ (by omega))) | ((with_reducible apply WH.ld); exact rfl; exact rfl; exact rfl; (first | exact ld2); exact rfl) | ((with_reducible apply WH.pk); exact rfl; exact rfl; exact rfl) | ((with_reducible apply WR.ec); exact rfl; exact rfl; exact rfl) | ((with_reducible apply WH.gtr); exact rfl; exact rfl; exact rfl)
  all_goals
    simp only [Int.toNat_natCast, toNat_pred] at *
    first
      | exact rb_t (by simp only [Clash, cel_eq]; omega)
      | exact rb_f (by simp only [Clash, cel_eq]; omega)

/-! A walk that is right. -/
theorem l04OpenW_gives (l : IsLawn w h g cs) (x y : Int) (hs : w ≤ 10 ∧ h ≤ 10) (hx : -128 ≤ x ∧ x ≤ 127 ∧ -128 ≤ y ∧ y ≤ 127) : Gives G 186 [ar cs, ac x y] (rb (decide (Opn w h g x y))) := by
  refine Gives.by rfl rfl (W.seq ?_)
  repeat' first | ((with_reducible apply WR.c_p (f := 50) (fn := Code.f50)); exact rfl; exact rfl; exact rfl; (first | exact rfl); (focus ((repeat' first | exact args_nil | apply args_d | exact toD_d rfl | exact all_nil | apply all_cons | exact rfl); done)); exact l01Is_gives (by assumption) _ _ (by omega)) | ((with_reducible apply WR.c_p (f := 50) (fn := Code.f50)); exact rfl; exact rfl; exact rfl; (first | exact rfl); (focus ((repeat' first | exact args_nil | apply args_d | exact toD_d rfl | exact all_nil | apply all_cons | exact rfl); done)); exact l01Is_gives (by assumption) _ _ (by omega)) | ((with_reducible apply WR.c_p (f := 72) (fn := Code.f72)); exact rfl; exact rfl; exact rfl; (first | exact rfl); (focus ((repeat' first | exact args_nil | apply args_d | exact toD_d rfl | exact all_nil | apply all_cons | exact rfl); done)); exact l01Open_gives (by assumption) _ _ (by omega)) | ((with_reducible apply WR.mv); exact rfl; exact rfl) | ((with_reducible apply WR.nil)) | (with_reducible refine andThen_n ?_) | (with_reducible refine W.seq ?_) | (with_reducible refine W.region ?_) | (with_reducible refine W.ret ?_) | ((with_reducible apply Done.f); (intro hh hh2; exact (nomatch hh2)); (focus ((repeat' first | exact all_nil | apply all_cons | exact res_tmp rfl | exact rfl); done)); (focus ((repeat' first | exact all_nil | apply all_cons | exact retOf_s rfl | exact rfl); done)); exact rfl; (focus ((repeat' first | exact outs_nil | apply outs_d | exact rfl); done))) | (intro hb; try (exfalso; omega)) | ((with_reducible apply WR.ld); exact rfl; exact rfl; exact rfl; (first | exact ld2)) | ((with_reducible apply WR.off); exact rfl) | ((with_reducible apply WR.bx); exact rfl; exact rfl; exact (by first | exact rfl); (first | exact rfl)) | ((with_reducible apply WR.pk); exact rfl; exact rfl)
  all_goals first
    | exact rb_t (by simp only [Opn, Has] at *; omega)
    | exact rb_f (by simp only [Opn, Has] at *; omega)
def Bes (p q : Cel) : Prop := (p.1 - q.1) * (p.1 - q.1) + (p.2 - q.2) * (p.2 - q.2) ≤ 1
instance (p q : Cel) : Decidable (Bes p q) := inferInstanceAs (Decidable (_ ≤ _))
theorem sq_small {x : Int} (hx : -300 ≤ x ∧ x ≤ 300) : 0 ≤ x * x ∧ x * x ≤ 90000 := by
  have hn : x.natAbs ≤ 300 := by omega
  have h := Nat.mul_le_mul hn hn
  have e := Int.natAbs_mul_self (a := x)
  omega
theorem l04Beside_gives (x y x' y' : Int) (hx : -128 ≤ x ∧ x ≤ 127 ∧ -128 ≤ y ∧ y ≤ 127) (hx' : -128 ≤ x' ∧ x' ≤ 127 ∧ -128 ≤ y' ∧ y' ≤ 127) : Gives G 187 [ac x y, ac x' y'] (rb (decide (Bes (x, y) (x', y')))) := by
  have s1 := sq_small (x := x - x') (by omega)
  have s2 := sq_small (x := y - y') (by omega)
  refine Gives.by rfl rfl (W.seq ?_)
  repeat' first | ((with_reducible apply WR.mv); exact rfl; exact rfl) | ((with_reducible apply WR.cv); exact rfl; exact rfl; (first | exact i64_in _ (by omega))) | ((with_reducible apply WR.lx); exact rfl; exact rfl) | ((with_reducible apply WR.fa); exact rfl; exact rfl) | ((with_reducible apply WR.nil)) | (with_reducible refine andThen_n ?_) | (with_reducible refine W.seq ?_) | (with_reducible refine W.region ?_) | (with_reducible refine W.ret ?_) | ((with_reducible apply Done.f); (intro hh hh2; exact (nomatch hh2)); (focus ((repeat' first | exact all_nil | apply all_cons | exact res_tmp rfl | exact rfl); done)); (focus ((repeat' first | exact all_nil | apply all_cons | exact retOf_s rfl | exact rfl); done)); exact rfl; (focus ((repeat' first | exact outs_nil | apply outs_d | exact rfl); done))) | (intro hb; try (exfalso; omega)) | ((with_reducible apply WR.sb); exact rfl; exact rfl; exact rfl; (first | exact i64_in _ (by omega))) | ((with_reducible apply WR.ml); exact rfl; exact rfl; exact rfl; (first | exact i64_in _ (by omega))) | ((with_reducible apply WR.bx); exact rfl; exact rfl; exact (by first | exact rfl); (first | exact rfl)) | ((with_reducible apply WR.leq); exact rfl; exact rfl; exact rfl) | ((with_reducible apply WR.ad); exact rfl; exact rfl; exact rfl; (first | exact i64_in _ (by omega)))
  all_goals first
    | exact rb_t (by assumption)
    | exact rb_f (by assumption)
def GoodAt (w h : Int) (g : Nat → Int) (a : List Cel) (i : Nat) : Prop := Opn w h g (gC a i).1 (gC a i).2 ∧ (0 < i → Bes (gC a (i - 1)) (gC a i))
instance (a : List Cel) (i : Nat) : Decidable (GoodAt w h g a i) := inferInstanceAs (Decidable (_ ∧ _))
def WalkOk (w h : Int) (g : Nat → Int) (a : List Cel) : Prop := (∀ i, i < a.length → GoodAt w h g a i) ∧ 0 < a.length
instance (a : List Cel) : Decidable (WalkOk w h g a) := inferInstanceAs (Decidable ((∀ i, i < a.length → _) ∧ _))
theorem l04Right_gives (l : IsLawn w h g cs) (hs : w ≤ 10 ∧ h ≤ 10) (a : List Cel) (ha : a.length ≤ 100000) (hI : ∀ i, i < a.length → -128 ≤ (gC a i).1 ∧ (gC a i).1 ≤ 127 ∧ -128 ≤ (gC a i).2 ∧ (gC a i).2 ≤ 127) :
    Gives G 178 [ar cs, asl a] (rb (decide (WalkOk w h g a))) := by
  refine Gives.by rfl rfl (W.seq ?_)
  repeat' first | ((with_reducible apply WR.mv); exact rfl; exact rfl) | ((with_reducible apply WR.nil)) | (with_reducible refine andThen_n ?_) | (with_reducible refine W.seq ?_) | (with_reducible refine W.region ?_) | (with_reducible refine W.block ?_)
  (refine (?_ : W _ (Code.loop _) _ _))
  (refine W.loopM [0, 1] [] [] (fun i : (Nat) => (a.length - i : Nat)) (fun i : (Nat) => (i ≤ a.length ∧ ∀ j, j < i → GoodAt w h g a j : Prop)) (fun i : (Nat) => [(5, .a (.d (.s (.int .i64 (i : Nat)))))]) (fun i : (Nat) => []) 0 (⟨by omega, fun j hj => by omega⟩) ⟨rfl, trivial⟩ trivial trivial ?_)
  rintro i σ hP hN; dsimp only [setL, putL] at hP ⊢
  obtain ⟨hi, hg⟩ := hP
  repeat' first | ((with_reducible apply WH.mv); exact rfl; exact rfl; exact rfl) | ((with_reducible apply WR.mv); exact rfl; exact rfl) | ((with_reducible apply WR.nil)) | (with_reducible refine andThen_n ?_) | (with_reducible refine andThen_x ?_) | (with_reducible refine inB_x ?_) | (with_reducible refine W.seq ?_) | (with_reducible refine W.region ?_) | (with_reducible refine W.skip ?_) | (with_reducible refine W.ret ?_) | (with_reducible refine W.exit ?_) | (with_reducible refine W.block ?_) | ((with_reducible apply W.condT); exact rfl) | ((with_reducible apply W.condF); exact rfl) | ((with_reducible apply Done.f); (intro hh hh2; exact (nomatch hh2)); (focus ((repeat' first | exact all_nil | apply all_cons | exact res_tmp rfl | exact rfl); done)); (focus ((repeat' first | exact all_nil | apply all_cons | exact retOf_s rfl | exact rfl); done)); exact rfl; (focus ((repeat' first | exact outs_nil | apply outs_d | exact rfl); done))) | ((with_reducible apply WH.idn); exact rfl; exact rfl; exact rfl; omega; (first | exact Nat.le_of_eq (encC_length _).symm); exact rfl) | ((with_reducible apply WH.ldd); exact rfl; exact rfl; (first | exact ldCd (by first | omega)); exact rfl) | (with_reducible refine W.draw ?_) | (intro hb; try (exfalso; omega)) | ((with_reducible apply WR.le); exact rfl; exact rfl) | ((with_reducible apply WR.lss); exact rfl; exact rfl; exact rfl) | ((with_reducible apply WR.gtr); exact rfl; exact rfl; exact rfl)
  · have h1 := hI i (by omega)
    have h2 : 0 < i → _ := fun hp => hI ((i : Int) - 1).toNat (by omega)
    have no : ¬ GoodAt w h g a i → ¬ WalkOk w h g a := fun hn hw => hn (hw.1 i (by omega))
    by_cases h0 : 0 < i
    · replace h2 := h2 h0
      repeat' first | ((with_reducible apply WH.c_p (f := 186) (fn := Code.f186)); exact rfl; exact rfl; exact rfl; (first | exact rfl); (focus ((repeat' first | exact args_nil | apply args_d | exact toD_d rfl | exact all_nil | apply all_cons | exact rfl); done)); exact l04OpenW_gives (by assumption) _ _ hs h1) | ((with_reducible apply WH.c_p (f := 187) (fn := Code.f187)); exact rfl; exact rfl; exact rfl; (first | exact rfl); (focus ((repeat' first | exact args_nil | apply args_d | exact toD_d rfl | exact all_nil | apply all_cons | exact rfl); done)); exact l04Beside_gives _ _ _ _ h2 h1) | ((with_reducible apply WH.mv); exact rfl; exact rfl; exact rfl) | ((with_reducible apply WR.mv); exact rfl; exact rfl) | ((with_reducible apply WH.off); exact rfl) | ((with_reducible apply WR.nil)) | (with_reducible refine andThen_n ?_) | (with_reducible refine andThen_r ?_) | (with_reducible refine inB_n ?_) | (with_reducible refine inB_r ?_) | (with_reducible refine W.seq ?_) | (with_reducible refine W.region ?_) | (with_reducible refine W.skip ?_) | (with_reducible refine W.ret ?_) | ((with_reducible apply W.condT); exact rfl) | ((with_reducible apply W.condF); exact rfl) | ((with_reducible apply Done.f); (intro hh hh2; exact (nomatch hh2)); (focus ((repeat' first | exact all_nil | apply all_cons | exact res_tmp rfl | exact rfl); done)); (focus ((repeat' first | exact all_nil | apply all_cons | exact retOf_s rfl | exact rfl); done)); exact rfl; (focus ((repeat' first | exact outs_nil | apply outs_d | exact rfl); done))) | ((with_reducible apply WH.idn); exact rfl; exact rfl; exact rfl; omega; (first | exact Nat.le_of_eq (encC_length _).symm); exact rfl) | ((with_reducible apply WH.id); exact rfl; exact rfl; exact rfl; omega; (first | exact Nat.le_of_eq (encC_length _).symm); exact rfl) | ((with_reducible apply WH.ldd); exact rfl; exact rfl; (first | exact ldCd (by first | omega)); exact rfl) | ((with_reducible apply WH.nil)) | (intro hb; try (exfalso; omega)) | ((with_reducible apply WH.un); exact rfl; exact rfl; exact rfl) | ((with_reducible apply WH.pk); exact rfl; exact rfl; exact rfl) | ((with_reducible apply WR.ad); exact rfl; exact rfl; exact rfl; (first | exact i64_in _ (by omega))) | ((with_reducible apply WH.gtr); exact rfl; exact rfl; exact rfl) | ((with_reducible apply WH.sb); exact rfl; exact rfl; exact rfl; (first | exact i64_in _ (by omega)))
      · (refine W.nxt (i + 1) (by first | omega | (dsimp only; omega)) ?_ ⟨rfl, trivial⟩ trivial ⟨rfl, rfl, trivial⟩ trivial trivial); (try dsimp only)
        exact ⟨by omega, upTo hg ⟨by assumption, fun _ => by rw [← toNat_pred]; assumption⟩⟩
      · exact rb_f (no fun hg => absurd (hg.2 h0) (by rw [← toNat_pred]; assumption))
      · exact rb_f (no fun hg => absurd hg.1 (by assumption))
    · repeat' first | ((with_reducible apply WH.c_p (f := 186) (fn := Code.f186)); exact rfl; exact rfl; exact rfl; (first | exact rfl); (focus ((repeat' first | exact args_nil | apply args_d | exact toD_d rfl | exact all_nil | apply all_cons | exact rfl); done)); exact l04OpenW_gives (by assumption) _ _ hs h1) | ((with_reducible apply WH.mv); exact rfl; exact rfl; exact rfl) | ((with_reducible apply WR.mv); exact rfl; exact rfl) | ((with_reducible apply WH.off); exact rfl) | ((with_reducible apply WR.nil)) | (with_reducible refine andThen_n ?_) | (with_reducible refine andThen_r ?_) | (with_reducible refine inB_n ?_) | (with_reducible refine inB_r ?_) | (with_reducible refine W.seq ?_) | (with_reducible refine W.region ?_) | (with_reducible refine W.skip ?_) | (with_reducible refine W.ret ?_) | ((with_reducible apply W.condT); exact rfl) | ((with_reducible apply W.condF); exact rfl) | ((with_reducible apply Done.f); (intro hh hh2; exact (nomatch hh2)); (focus ((repeat' first | exact all_nil | apply all_cons | exact res_tmp rfl | exact rfl); done)); (focus ((repeat' first | exact all_nil | apply all_cons | exact retOf_s rfl | exact rfl); done)); exact rfl; (focus ((repeat' first | exact outs_nil | apply outs_d | exact rfl); done))) | ((with_reducible apply WH.nil)) | (intro hb; try (exfalso; omega)) | ((with_reducible apply WH.un); exact rfl; exact rfl; exact rfl) | ((with_reducible apply WH.pk); exact rfl; exact rfl; exact rfl) | ((with_reducible apply WR.ad); exact rfl; exact rfl; exact rfl; (first | exact i64_in _ (by omega))) | ((with_reducible apply WH.gtr); exact rfl; exact rfl; exact rfl)
      · (refine W.nxt (i + 1) (by first | omega | (dsimp only; omega)) ?_ ⟨rfl, trivial⟩ trivial ⟨rfl, rfl, trivial⟩ trivial trivial); (try dsimp only)
        exact ⟨by omega, upTo hg ⟨by assumption, fun h => absurd h h0⟩⟩
      · exact rb_f (no fun hg => absurd hg.1 (by assumption))
  · exact rb_t ⟨fun j hj => hg j (by omega), by omega⟩
  · exact rb_f (fun hw => by have := hw.2; omega)
theorem sq_big {x : Int} (hx : x * x ≤ 1) : -1 ≤ x ∧ x ≤ 1 := by
  have e := Int.natAbs_mul_self (a := x)
  have h : x.natAbs ≤ 1 := Nat.le_of_not_lt fun h => by
    have := Nat.mul_le_mul (show 2 ≤ x.natAbs by omega) (show 2 ≤ x.natAbs by omega)
    omega
  omega
theorem bes_iff (p q : Cel) : Bes p q ↔ (q = p ∨ p ∈ Near q.1 q.2) := by
  obtain ⟨x, y⟩ := p
  obtain ⟨x', y'⟩ := q
  simp only [Bes, Near, List.mem_cons, Prod.mk.injEq, List.not_mem_nil, or_false]
  constructor
  · intro h
    have h1 := Int.natAbs_mul_self (a := x - x')
    have h2 := Int.natAbs_mul_self (a := y - y')
    have a1 := sq_big (x := x - x') (by omega)
    have a2 := sq_big (x := y - y') (by omega)
    have key : ∀ u v : Int, -1 ≤ u ∧ u ≤ 1 → -1 ≤ v ∧ v ≤ 1 → u * u + v * v ≤ 1 → u = 0 ∨ v = 0 := by
      intro u v hu hv h
      rcases (by omega : u = -1 ∨ u = 0 ∨ u = 1) with rfl | rfl | rfl <;> rcases (by omega : v = -1 ∨ v = 0 ∨ v = 1) with rfl | rfl | rfl <;> simp at h ⊢
    have := key _ _ a1 a2 h
    omega
  · intro h
    have : ∀ u v : Int, (u = 0 ∧ -1 ≤ v ∧ v ≤ 1) ∨ (v = 0 ∧ -1 ≤ u ∧ u ≤ 1) → u * u + v * v ≤ 1 := by
      intro u v hu
      rcases hu with ⟨rfl, h1, h2⟩ | ⟨rfl, h1, h2⟩
      · rcases (by omega : v = -1 ∨ v = 0 ∨ v = 1) with rfl | rfl | rfl <;> decide
      · rcases (by omega : u = -1 ∨ u = 0 ∨ u = 1) with rfl | rfl | rfl <;> decide
    exact this _ _ (by omega)
theorem isWalk_gives (l : IsLawn w h g cs) (hs : w ≤ 10 ∧ h ≤ 10) (a : List Cel) (ha : a.length ≤ 100000) : Gives G 184 [aa cs, asl a] (rb (decide (WalkOk w h g a))) := by
  refine Gives.by rfl rfl (W.seq ?_)
  repeat' first | ((with_reducible apply WR.mv); exact rfl; exact rfl) | ((with_reducible apply WR.nil)) | (with_reducible refine andThen_n ?_) | (with_reducible refine W.seq ?_) | (with_reducible refine W.region ?_) | (with_reducible refine W.block ?_) | ((with_reducible apply WR.le); exact rfl; exact rfl) | ((with_reducible apply WR.bx); exact rfl; exact rfl; exact (by first | exact IsLawn.len (by assumption) | exact rfl); (first | exact rfl))
  (refine (?_ : W _ (Code.loop _) _ _))
  (refine W.loopM [1, 2, 7, 8] [2] [6, 32] (fun i : (Nat) => (a.length - i : Nat)) (fun i : (Nat) => (i ≤ a.length ∧ ∀ j, j < i → GoodAt w h g a j : Prop)) (fun i : (Nat) => [(9, .a (.d (.s (.int .i64 (i : Nat)))))]) (fun i : (Nat) => []) 0 (⟨by omega, fun j hj => by omega⟩) ⟨rfl, trivial⟩ trivial ⟨(by (repeat' first | exact rfl | assumption | (with_reducible apply noPar_set) | ((with_reducible apply noPar_puto); exact rfl) | (with_reducible apply noPar_put) | (with_reducible apply noPar_putv) | (with_reducible apply noPar_putm) | (with_reducible apply noPar_putr) | (with_reducible apply noPar_kill) | ((with_reducible apply noPar_mix); exact rfl) | ((with_reducible apply noPar_mixT); exact rfl)); done), (by (repeat' first | exact rfl | assumption | (with_reducible apply noPar_set) | ((with_reducible apply noPar_puto); exact rfl) | (with_reducible apply noPar_put) | (with_reducible apply noPar_putv) | (with_reducible apply noPar_putm) | (with_reducible apply noPar_putr) | (with_reducible apply noPar_kill) | ((with_reducible apply noPar_mix); exact rfl) | ((with_reducible apply noPar_mixT); exact rfl)); done), trivial⟩ ?_)
  rintro i σ hP hN; dsimp only [setL, putL] at hP ⊢; obtain ⟨n6, hN⟩ := hN; obtain ⟨n32, hN⟩ := hN
  obtain ⟨hi, hg⟩ := hP
  have no : i < a.length → ¬ GoodAt w h g a i → ¬ WalkOk w h g a := fun h hn hw => hn (hw.1 i h)
  repeat' first | ((with_reducible apply WH.c_o (f := 89) (fn := Code.f89)); exact rfl; exact rfl; exact rfl; (first | exact rfl); (focus ((repeat' first | exact args_nil | apply args_d | exact toD_d rfl | exact toD_slC rfl rfl (by first | exact rfl | omega) | exact all_nil | apply all_cons | exact rfl); done)); exact beside_gives _ _ (by simp only [Opn, Has] at *; omega); (first | exact rfl | assumption | (focus ((repeat' first | exact rfl | assumption | (with_reducible apply noPar_set) | ((with_reducible apply noPar_puto); exact rfl) | (with_reducible apply noPar_kill)); done))); exact rfl; exact rfl) | ((with_reducible apply WH.c_p (f := 83) (fn := Code.f83)); exact rfl; exact rfl; exact rfl; (first | exact rfl); (focus ((repeat' first | exact args_nil | apply args_d | exact toD_d rfl | exact toD_slC rfl rfl (by first | exact rfl | omega) | exact all_nil | apply all_cons | exact rfl); done)); exact contains_gives _ (by show 4 ≤ 1000; omega) _ _) | ((with_reducible apply WH.c_p (f := 77) (fn := Code.f77)); exact rfl; exact rfl; exact rfl; (first | exact rfl); (focus ((repeat' first | exact args_nil | apply args_d | exact toD_d rfl | exact toD_slC rfl rfl (by first | exact rfl | omega) | exact all_nil | apply all_cons | exact rfl); done)); exact open_gives (by assumption) _ _ (by omega)) | ((with_reducible apply WH.off); exact rfl) | ((with_reducible apply WR.mv); exact rfl; exact rfl) | ((with_reducible apply WH.mv); exact rfl; exact rfl; exact rfl) | ((with_reducible apply WH.ld); exact rfl; exact rfl; exact rfl; (first | exact ld2 | exact loadC_all (IsLawn.len (by assumption)) | exact ldCd (by first | omega)); exact rfl) | ((with_reducible apply WH.ldd); exact rfl; exact rfl; (first | exact ld2 | exact loadC_all (IsLawn.len (by assumption)) | exact ldCd (by first | omega)); exact rfl) | ((with_reducible apply WR.nil)) | (with_reducible refine andThen_n ?_) | (with_reducible refine andThen_x ?_) | (with_reducible refine andThen_r ?_) | (with_reducible refine inB_n ?_) | (with_reducible refine inB_r ?_) | (with_reducible refine inB_x ?_) | (with_reducible refine W.seq ?_) | (with_reducible refine W.region ?_) | (with_reducible refine W.skip ?_) | (with_reducible refine W.ret ?_) | (with_reducible refine W.exit ?_) | (with_reducible refine W.block ?_) | ((with_reducible apply W.condT); exact rfl) | ((with_reducible apply W.condF); exact rfl) | ((with_reducible apply Done.f); (intro hh hh2; exact (nomatch hh2)); (focus ((repeat' first | exact all_nil | apply all_cons | exact res_tmp rfl | exact rfl); done)); (focus ((repeat' first | exact all_nil | apply all_cons | exact retOf_s rfl | exact rfl); done)); exact rfl; (focus ((repeat' first | exact outs_nil | apply outs_d | exact rfl); done))) | ((with_reducible apply WH.pk); exact rfl; exact rfl; exact rfl) | ((with_reducible apply WH.nil)) | (with_reducible refine W.draw ?_) | (intro hb; try (exfalso; omega)) | ((with_reducible apply WR.le); exact rfl; exact rfl) | ((with_reducible apply WH.sb); exact rfl; exact rfl; exact rfl; (first | exact i64_in _ (by omega) | assumption)) | ((with_reducible apply WH.id); exact rfl; exact rfl; exact rfl; omega; (first | exact Nat.le_of_eq (encC_length _).symm); exact rfl) | ((with_reducible apply WH.un); exact rfl; exact rfl; exact rfl) | ((with_reducible apply WR.lss); exact rfl; exact rfl; exact rfl) | ((with_reducible apply WR.gtr); exact rfl; exact rfl; exact rfl) | ((with_reducible apply WR.ad); exact rfl; exact rfl; exact rfl; (first | exact i64_in _ (by omega) | assumption)) | ((with_reducible apply WR.idn); exact rfl; exact rfl; exact rfl; omega; (first | exact Nat.le_of_eq (encC_length _).symm)) | ((with_reducible apply WR.ldd); exact rfl; exact rfl; (first | exact ld2 | exact loadC_all (IsLawn.len (by assumption)) | exact ldCd (by first | omega))) | ((with_reducible apply WR.al); exact rfl; (first | exact rfl | assumption | (focus ((repeat' first | exact rfl | assumption | (with_reducible apply noPar_set) | ((with_reducible apply noPar_puto); exact rfl) | (with_reducible apply noPar_kill)); done)))) | ((with_reducible apply WR.st); exact rfl; exact rfl; exact rfl; exact st2) | ((with_reducible apply WH.gtr); exact rfl; exact rfl; exact rfl) | ((with_reducible apply WH.en); exact rfl; exact rfl; exact rfl)
  · (refine W.nxt (i + 1) (by first | omega | (dsimp only; omega)) ?_ ⟨rfl, trivial⟩ trivial ⟨rfl, rfl, rfl, rfl, trivial⟩ ⟨rfl, trivial⟩ ⟨(by (repeat' first | exact rfl | assumption | (with_reducible apply noPar_set) | ((with_reducible apply noPar_puto); exact rfl) | (with_reducible apply noPar_put) | (with_reducible apply noPar_putv) | (with_reducible apply noPar_putm) | (with_reducible apply noPar_putr) | (with_reducible apply noPar_kill) | ((with_reducible apply noPar_mix); exact rfl) | ((with_reducible apply noPar_mixT); exact rfl)); done), (by (repeat' first | exact rfl | assumption | (with_reducible apply noPar_set) | ((with_reducible apply noPar_puto); exact rfl) | (with_reducible apply noPar_put) | (with_reducible apply noPar_putv) | (with_reducible apply noPar_putm) | (with_reducible apply noPar_putr) | (with_reducible apply noPar_kill) | ((with_reducible apply noPar_mix); exact rfl) | ((with_reducible apply noPar_mixT); exact rfl)); done), trivial⟩); (try dsimp only)
    exact ⟨by omega, upTo hg ⟨by assumption, fun _ => (bes_iff _ _).2 (.inr (by rw [← toNat_pred]; assumption))⟩⟩
  · exact rb_f (no (by omega) fun hg => by
      rcases (bes_iff _ _).1 (hg.2 (by omega)) with h | h
      · rw [← toNat_pred] at h
        exact absurd (cel_eq.1 h) (by assumption)
      · rw [← toNat_pred] at h
        exact absurd h (by assumption))
  · (refine W.nxt (i + 1) (by first | omega | (dsimp only; omega)) ?_ ⟨rfl, trivial⟩ trivial ⟨rfl, rfl, rfl, rfl, trivial⟩ ⟨rfl, trivial⟩ ⟨(by (repeat' first | exact rfl | assumption | (with_reducible apply noPar_set) | ((with_reducible apply noPar_puto); exact rfl) | (with_reducible apply noPar_put) | (with_reducible apply noPar_putv) | (with_reducible apply noPar_putm) | (with_reducible apply noPar_putr) | (with_reducible apply noPar_kill) | ((with_reducible apply noPar_mix); exact rfl) | ((with_reducible apply noPar_mixT); exact rfl)); done), (by (repeat' first | exact rfl | assumption | (with_reducible apply noPar_set) | ((with_reducible apply noPar_puto); exact rfl) | (with_reducible apply noPar_put) | (with_reducible apply noPar_putv) | (with_reducible apply noPar_putm) | (with_reducible apply noPar_putr) | (with_reducible apply noPar_kill) | ((with_reducible apply noPar_mix); exact rfl) | ((with_reducible apply noPar_mixT); exact rfl)); done), trivial⟩); (try dsimp only)
    exact ⟨by omega, upTo hg ⟨by assumption, fun _ => (bes_iff _ _).2 (.inl (cel_eq.2 (by rw [← toNat_pred]; assumption)))⟩⟩
  · (refine W.nxt (i + 1) (by first | omega | (dsimp only; omega)) ?_ ⟨rfl, trivial⟩ trivial ⟨rfl, rfl, rfl, rfl, trivial⟩ ⟨rfl, trivial⟩ ⟨(by (repeat' first | exact rfl | assumption | (with_reducible apply noPar_set) | ((with_reducible apply noPar_puto); exact rfl) | (with_reducible apply noPar_put) | (with_reducible apply noPar_putv) | (with_reducible apply noPar_putm) | (with_reducible apply noPar_putr) | (with_reducible apply noPar_kill) | ((with_reducible apply noPar_mix); exact rfl) | ((with_reducible apply noPar_mixT); exact rfl)); done), (by (repeat' first | exact rfl | assumption | (with_reducible apply noPar_set) | ((with_reducible apply noPar_puto); exact rfl) | (with_reducible apply noPar_put) | (with_reducible apply noPar_putv) | (with_reducible apply noPar_putm) | (with_reducible apply noPar_putr) | (with_reducible apply noPar_kill) | ((with_reducible apply noPar_mix); exact rfl) | ((with_reducible apply noPar_mixT); exact rfl)); done), trivial⟩); (try dsimp only)
    exact ⟨by omega, upTo hg ⟨by assumption, fun h => by omega⟩⟩
  · exact rb_f (no (by omega) fun hg => absurd hg.1 (by assumption))
  · exact rb_t ⟨fun j hj => hg j (by omega), by omega⟩
  · exact rb_f (fun hw => by have := hw.2; omega)
end Go.DM
