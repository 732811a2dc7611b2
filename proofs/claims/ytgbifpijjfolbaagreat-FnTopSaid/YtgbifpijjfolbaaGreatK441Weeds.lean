/- Those cells for which something holds; slices.Repeat; codes of cells that have to be open. -/
import Derived.Test.YtgbifpijjfolbaaGreatK441All
import Derived.Test.YtgbifpijjfolbaaGreatK441SplitK
import Derived.Test.YtgbifpijjfolbaaGreatK441Beside
import Derived.Test.YtgbifpijjfolbaaGreatK441More
set_option linter.all false
set_option maxHeartbeats 4000000
namespace Go.DM
variable [Tok]
open Go.IntWalk
variable {w h : Int} {g : Nat → Int} {cs : List S}
theorem thoseNot_gives {x : D} {P : Cel → Prop} [DecidablePred P] {dom : Cel → Prop} (hx : HoldsC G x P dom) (u v : Int) (hd : dom (u, v)) : Gives G 64 [ac u v, .d (.refd x)] (rb (decide (¬ P (u, v)))) := by
  refine Gives.by rfl rfl (W.seq ?_)
  repeat' first | ((with_reducible apply WR.vh hx); (iterate 3 exact rfl); exact hd) | (with_reducible first | apply WR.nil | refine andThen_n ?_ | refine W.seq ?_ | refine W.region ?_ | refine W.ret ?_) | ((with_reducible apply Done.f); (intro hh hh2; exact (nomatch hh2)); (focus ((repeat' first | exact all_nil | apply all_cons | exact res_tmp rfl | exact rfl); done)); (focus ((repeat' first | exact all_nil | apply all_cons | exact retOf_s rfl | exact rfl); done)); exact rfl; (focus ((repeat' first | exact outs_nil | apply outs_d | exact rfl); done))) | (intro hb; try (exfalso; omega)) | ((with_reducible first | apply WR.mv | apply WR.lx | apply WR.un); exact rfl; exact rfl) | ((with_reducible apply WR.ld); (iterate 3 exact rfl); (exact ld2)) | ((with_reducible apply WR.bx); exact rfl; exact rfl; exact (by first | exact rfl); exact rfl)
  · exact rb_f (fun h => h (by assumption))
  · exact rb_t (by assumption)
def those (w h : Int) (P : Cel → Prop) [DecidablePred P] : List Cel := (allC w h).filter fun c => decide (P c)
theorem those_kept (P : Cel → Prop) [DecidablePred P] : kept (fun c => ¬ P c) (allC w h) = those w h P := by
  unfold kept those
  apply List.filter_congr
  intro c _
  simp
section
variable {dsts : Nat → Option Nat} {ops : List Oper} {Q : St → Prop} {σ : St} {gd : Option (Nat × Bool)} {l1 l2 l3 l4 : List Nat}
theorem WR.de0 {e p f : Nat} {fn : Fn} {z : D} {a b : Opd} {v : V} (P : Cel → Prop) [DecidablePred P] (l : List Cel) (hl : l.length ≤ 1000) (hf : G f = some fn) (hm : fn.muts = []) (hP : ∀ c ∈ l, Gives G f [ac c.1 c.2, .d z] (rb (decide (P c))))
    (hw : wanted dsts σ.env gd = some true) (ha : ev σ.env a = .a (.sl p 0 l.length 2)) (ho : σ.objs p = some (.flat false (encC l))) (hb : ev σ.env b = v) (hz : toDV (fun o => if [p].contains o then none else σ.objs o) depth v = some (.clo f [] [z])) (hv : mutIds [] [v] = [])
    (k : WR G dsts ops Q (set (some e) (.a (.sl p 0 (kept P l).length 2)) (put p (.flat false (encC (kept P l ++ List.replicate (l.length - (kept P l).length) (0, 0)))) σ))) : WR G dsts (⟨some e, .call 63 [a, b], gd, l1, l2, l3, l4⟩ :: ops) Q σ :=
  WR.de P l [] hl hf hm hP hw ha (by rw [ho, List.append_nil]) hb hz hv (by rw [List.append_nil]; exact k)
end
theorem those_gives (l : IsLawn w h g cs) (hs : 0 ≤ w ∧ w ≤ 10 ∧ 0 ≤ h ∧ h ≤ 10) {x : D} {P : Cel → Prop} [DecidablePred P] {dom : Cel → Prop} (hx : HoldsC G x P dom) (hd : ∀ c, Has w h c.1 c.2 → dom c) :
    Gives G 31 [aa cs, .d x] ⟨[.own (those w h P).length 2 (encC (those w h P))], []⟩ := by
  have hal := allC_len (w := w) (h := h) (by omega)
  have hmem := fun c => allC_mem (w := w) (h := h) (c := c)
  have hk := those_kept (w := w) (h := h) P
  obtain ⟨f, fn, pre, post, rfl, h1, h2, h3⟩ := id hx
  refine Gives.by rfl rfl (W.seq ?_)
  repeat' first | ((with_reducible apply WR.c_o (f := 33) (fn := Code.f33)); (iterate 3 exact rfl); exact rfl; (focus ((repeat' first | exact args_nil | apply args_d | exact toD_d rfl | exact rfl); done)); exact all_gives (by assumption) (by omega); exact rfl) | (with_reducible first | apply WR.nil | refine andThen_n ?_ | refine W.seq ?_ | refine W.region ?_) | ((with_reducible first | apply WR.mv | apply WR.mf); exact rfl; exact rfl) | ((with_reducible apply WR.bx); exact rfl; exact rfl; exact (by first | exact IsLawn.len (by assumption) | exact rfl); exact rfl) | ((with_reducible apply WR.bo); exact rfl; exact rfl; exact rfl) | ((with_reducible apply WR.ld); (iterate 3 exact rfl); (exact loadC_all (IsLawn.len (by assumption))))
  refine WR.de0 (fun c => ¬ P c) (allC w h) (by omega) rfl rfl (fun c hc => thoseNot_gives hx c.1 c.2 (hd _ (hmem c hc))) rfl rfl rfl rfl rfl rfl ?_
  rw [hk]
  repeat' first | (with_reducible first | apply WR.nil | refine andThen_n ?_ | refine W.ret ?_) | ((with_reducible apply Done.f); (intro hh hh2; exact (nomatch hh2)); (focus ((repeat' first | exact all_nil | apply all_cons | exact res_tmp rfl); done)); (focus ((repeat' first | exact all_nil | apply all_cons | exact retOf_o2 rfl rfl rfl); done)); exact rfl; (focus ((repeat' first | exact outs_nil | apply outs_d); done))) | ((with_reducible apply WR.mv); exact rfl; exact rfl)
  all_goals rfl
theorem holds_grass (l : IsLawn w h g cs) (hs : w ≤ 10 ∧ h ≤ 10) : HoldsC G (.clo 32 [.agg cs] []) (fun c => Is w h g 0 c.1 c.2) (fun _ => True) :=
  ⟨32, Code.f32, _, _, rfl, rfl, rfl, fun c _ => grass_gives l c.1 c.2 (.inl hs)⟩
theorem holds_open (l : IsLawn w h g cs) (hs : w ≤ 10 ∧ h ≤ 10) : HoldsC G (.clo 77 [.agg cs] []) (fun c => Opn w h g c.1 c.2) (fun _ => True) :=
  ⟨77, Code.f77, _, _, rfl, rfl, rfl, fun c _ => open_gives l c.1 c.2 (.inl hs)⟩
theorem those_grass : those w h (fun c => Is w h g 0 c.1 c.2) = ofKind w h g 0 := by
  unfold those ofKind
  apply List.filter_congr
  intro c hc
  have := allC_mem hc
  rw [decide_eq_decide]
  exact ⟨fun h => h.2, fun h => ⟨this, h⟩⟩
end Go.DM

/- Rows of letters and the pieces of a text: plain facts. -/
namespace Go.DM
variable [Tok]
end Go.DM

/- Rows of letters: the program's rows. -/
set_option maxHeartbeats 4000000
namespace Go.DM
variable [Tok]
open Go.IntWalk
section
variable {dsts : Nat → Option Nat} {ops : List Oper} {Q : St → Prop} {σ : St} {g : Option (Nat × Bool)} {l1 l2 l3 l4 : List Nat}
end
end Go.DM

/- Weeds: rows of bits. -/
set_option maxHeartbeats 4000000
namespace Go.DM
variable [Tok]
open Go.IntWalk
variable {w h : Int} {g : Nat → Int} {cs : List S}
abbrev wR (q : Nat → Int) : List S := rowI .u16 10 q
def WB (q : Nat → Int) : Prop := ∀ k, k < 10 → 0 ≤ q k ∧ q k < 65536
def Soil (w h : Int) (g : Nat → Int) (x y : Int) : Prop := Has w h x y ∧ (g (10 * y.toNat + x.toNat) = 0 ∨ g (10 * y.toNat + x.toNat) = 1)
instance (x y : Int) : Decidable (Soil w h g x y) := inferInstanceAs (Decidable (_ ∧ _))
theorem div_b {n : Int} (hn : 0 ≤ n ∧ n < 65536) (j : Nat) : 0 ≤ n / 2 ^ j ∧ n / 2 ^ j < 65536 := by
  obtain ⟨m, rfl⟩ : ∃ m : Nat, n = m := ⟨n.toNat, by omega⟩
  have hp : ((2 : Int) ^ j) = ((2 ^ j : Nat) : Int) := by push_cast; rfl
  have e : ((m : Int) / ((2 ^ j : Nat) : Int)) = ((m / 2 ^ j : Nat) : Int) := by push_cast; rfl
  rw [hp, e]
  have := Nat.div_le_self m (2 ^ j)
  exact ⟨Int.natCast_nonneg _, (Int.ofNat_lt.2 (by omega) : ((m / 2 ^ j : Nat) : Int) < ((65536 : Nat) : Int))⟩
theorem soil_gives (l : IsLawn w h g cs) (x y : Int) (hs : w ≤ 10 ∧ h ≤ 10) : Gives G 318 [aa cs, ac x y] (rb (decide (Soil w h g x y))) := by
  refine Gives.by rfl rfl (W.seq ?_)
  repeat' first | ((with_reducible apply WR.c_p (f := 65) (fn := Code.f65)); (iterate 3 exact rfl); exact rfl; (focus ((repeat' first | exact args_nil | apply args_d | exact toD_d rfl | exact all_nil | apply all_cons | exact rfl); done)); exact is_gives (by assumption) _ _ _ (by omega)) | ((with_reducible apply WR.ld); (iterate 3 exact rfl); (first | exact ld2 | exact loadC_all (IsLawn.len (by assumption)))) | ((with_reducible first | apply WR.mv | apply WR.pk); exact rfl; exact rfl) | (with_reducible first | apply WR.nil | refine andThen_n ?_ | refine W.seq ?_ | refine W.region ?_ | refine W.ret ?_) | ((with_reducible apply Done.f); (intro hh hh2; exact (nomatch hh2)); (focus ((repeat' first | exact all_nil | apply all_cons | exact res_tmp rfl | exact rfl); done)); (focus ((repeat' first | exact all_nil | apply all_cons | exact retOf_s rfl | exact rfl); done)); exact rfl; (focus ((repeat' first | exact outs_nil | apply outs_d | exact rfl); done))) | (intro hb; try (exfalso; omega)) | ((with_reducible apply WR.bx); exact rfl; exact rfl; exact (by first | exact IsLawn.len (by assumption) | exact rfl); exact rfl) | ((with_reducible apply WR.off); exact rfl)
  · have hb' : Is w h g 0 x y := by assumption
    exact rb_t ⟨hb'.1, .inl hb'.2⟩
  · have hb' : Is w h g 1 x y := by assumption
    exact rb_t ⟨hb'.1, .inr hb'.2⟩
  · exact rb_f (fun hh => hh.2.elim (fun e => (by assumption : ¬ Is w h g 0 x y) ⟨hh.1, e⟩) (fun e => (by assumption : ¬ Is w h g 1 x y) ⟨hh.1, e⟩))
theorem l07Soil_gives (l : IsLawn w h g cs) (x y : Int) (hs : w ≤ 10 ∧ h ≤ 10) (hb : -128 ≤ x ∧ x ≤ 127 ∧ -128 ≤ y ∧ y ≤ 127) : Gives G 316 [ar cs, ac x y] (rb (decide (Soil w h g x y))) := by
  refine Gives.by rfl rfl (W.seq ?_)
  repeat' first | ((with_reducible apply WR.c_p (f := 50) (fn := Code.f50)); (iterate 3 exact rfl); exact rfl; (focus ((repeat' first | exact args_nil | apply args_d | exact toD_d rfl | exact all_nil | apply all_cons | exact rfl); done)); exact l01Is_gives (by assumption) _ _ (by omega)) | ((with_reducible apply WR.c_s (f := 61) (fn := Code.f61)); (iterate 3 exact rfl); exact rfl; (focus ((repeat' first | exact args_nil | apply args_d | exact toD_d rfl | exact all_nil | apply all_cons | exact rfl); done)); exact l01At_gives (by assumption) _ _ (by omega)) | ((with_reducible first | apply WR.mv | apply WR.pk); exact rfl; exact rfl) | ((with_reducible apply WR.off); exact rfl) | ((with_reducible apply WR.ld); (iterate 3 exact rfl); (exact ld2)) | (with_reducible first | apply WR.nil | refine andThen_n ?_ | refine W.seq ?_ | refine W.region ?_ | refine W.ret ?_) | ((with_reducible apply Done.f); (intro hh hh2; exact (nomatch hh2)); (focus ((repeat' first | exact all_nil | apply all_cons | exact res_tmp rfl | exact rfl); done)); (focus ((repeat' first | exact all_nil | apply all_cons | exact retOf_s rfl | exact rfl); done)); exact rfl; (focus ((repeat' first | exact outs_nil | apply outs_d | exact rfl); done))) | (intro hb; try (exfalso; omega)) | ((with_reducible apply WR.eql); iterate 3 exact rfl) | ((with_reducible apply WR.bx); exact rfl; exact rfl; exact (by first | exact rfl); exact rfl)
  · exact rb_t ⟨by assumption, .inl (by assumption)⟩
  · exact rb_t ⟨by assumption, .inr (by assumption)⟩
  · exact rb_f (fun hh => hh.2.elim (by assumption) (by assumption))
  · exact rb_f (fun hh => (by assumption : ¬ (0 ≤ x ∧ x < w ∧ 0 ≤ y ∧ y < h)) hh.1)
def bitQ (q : Nat → Int) (y x : Nat) : Prop := (q y / 2 ^ x) % 2 = 1
instance (q : Nat → Int) (y x : Nat) : Decidable (bitQ q y x) := inferInstanceAs (Decidable (_ = _))
theorem weedsHas_gives (q : Nat → Int) (hq : WB q) (x y : Int) (hb : 0 ≤ x ∧ x < 16 ∧ 0 ≤ y ∧ y < 10) : Gives G 320 [aa (wR q), ac x y] (rb (decide (bitQ q y.toNat x.toNat))) := by
  have hqy := hq y.toNat (by omega)
  have hdv := div_b hqy x.toNat
  refine Gives.by rfl rfl (W.seq ?_)
  repeat' first | (with_reducible first | apply WR.nil | refine andThen_n ?_ | refine W.seq ?_ | refine W.region ?_ | refine W.ret ?_ | apply WH.nil | refine W.draw ?_) | ((with_reducible apply Done.f); (intro hh hh2; exact (nomatch hh2)); (focus ((repeat' first | exact all_nil | apply all_cons | exact res_tmp rfl | exact rfl); done)); (focus ((repeat' first | exact all_nil | apply all_cons | exact retOf_s rfl | exact rfl); done)); exact rfl; (focus ((repeat' first | exact outs_nil | apply outs_d | exact rfl); done))) | ((with_reducible apply WH.ld); (iterate 3 exact rfl); (exact ldR (by omega)); exact rfl) | ((with_reducible first | apply WH.lx | apply WH.fa | apply WH.mv | apply WH.eql); iterate 3 exact rfl) | (intro hb; try (exfalso; omega)) | ((with_reducible apply WR.bx); exact rfl; exact rfl; exact (by first | exact rowI_len | exact rfl); exact rfl) | ((with_reducible apply WR.mv); exact rfl; exact rfl) | ((with_reducible apply WH.bsr); (iterate 3 exact rfl); omega) | ((with_reducible apply WH.ba1); (iterate 3 exact rfl); (omega)) | ((with_reducible apply WH.ia); (iterate 3 exact rfl); omega; exact rfl)
  · exact rb_t (by assumption)
  · exact rb_f (by assumption)
def WOk (w h : Int) (g : Nat → Int) (q : Nat → Int) : Prop := ∀ y, y < 10 → ∀ x, x < 16 → bitQ q y x → Soil w h g ((x : Nat) : Int) ((y : Nat) : Int)
instance (q : Nat → Int) : Decidable (WOk w h g q) := inferInstanceAs (Decidable (∀ y, y < 10 → ∀ x, x < 16 → _))
theorem validWeeds_gives (l : IsLawn w h g cs) (hok : LawnOk w h g) (q : Nat → Int) (hq : WB q) : Gives G 303 [aa cs, aa (wR q)] (rb (decide (WOk w h g q))) := by
  have hs : w ≤ 10 ∧ h ≤ 10 := ⟨hok.1.2, hok.2.1.2⟩
  have hV := validLawn_gives l
  rw [decide_eq_true hok] at hV
  refine Gives.by rfl rfl (W.seq ?_)
  repeat' first | ((with_reducible apply WR.mv); exact rfl; exact rfl) | (with_reducible first | apply WR.nil | refine andThen_n ?_ | refine W.seq ?_ | refine W.region ?_ | refine W.block ?_) | ((with_reducible apply WR.bx); exact rfl; exact rfl; exact (by first | exact IsLawn.len (by assumption) | exact rowI_len | exact rfl); exact rfl)
  (refine (?_ : W _ (Code.loop _) _ _))
  (refine W.loopM [2, 3] [2, 3] [] (fun y : (Nat) => (10 - y : Nat)) (fun y : (Nat) => (y ≤ 10 ∧ ∀ y', y' < y → ∀ x, x < 16 → bitQ q y' x → Soil w h g ((x : Nat) : Int) ((y' : Nat) : Int) : Prop)) (fun y : (Nat) => [(7, .a (.d (.s (.int .i8 (y : Nat)))))]) (fun y : (Nat) => []) 0 (⟨by omega, fun y' h => by omega⟩) ⟨rfl, trivial⟩ trivial trivial ?_)
  rintro y σ hP hN; dsimp only [setL, putL] at hP ⊢
  obtain ⟨hy, hY⟩ := hP
  by_cases hyl : y < 10
  · have hqy := hq y hyl
    repeat' first | ((with_reducible apply WR.mv); exact rfl; exact rfl) | (with_reducible first | apply WR.nil | refine andThen_n ?_ | refine W.seq ?_ | refine W.region ?_ | refine W.skip ?_ | refine W.block ?_) | ((with_reducible apply W.condT); exact rfl) | (intro hb; try (exfalso; omega)) | ((with_reducible apply WR.lss); iterate 3 exact rfl)
    (refine (?_ : W _ (Code.loop _) _ _))
    (refine W.loopM [2, 3, 5, 7] [2, 3] [] (fun x : (Nat) => (16 - x : Nat)) (fun x : (Nat) => (x ≤ 16 ∧ ∀ x', x' < x → bitQ q y x' → Soil w h g ((x' : Nat) : Int) ((y : Nat) : Int) : Prop)) (fun x : (Nat) => [(10, .a (.d (.s (.int .i8 (x : Nat)))))]) (fun x : (Nat) => []) 0 (⟨by omega, fun x' h => by omega⟩) ⟨rfl, trivial⟩ trivial trivial ?_)
    rintro x σ hP hN; dsimp only [setL, putL] at hP ⊢
    obtain ⟨hx, hX⟩ := hP
    by_cases hxl : x < 16
    · have hdv := div_b hqy x
      have nxt : (bitQ q y x → Soil w h g ((x : Nat) : Int) ((y : Nat) : Int)) → ∀ x', x' < x + 1 → bitQ q y x' → Soil w h g ((x' : Nat) : Int) ((y : Nat) : Int) := fun hn x' hx' hb => by
        by_cases e : x' = x
        · subst e; exact hn hb
        · exact hX x' (by omega) hb
      repeat' first | ((with_reducible apply WR.c_p (f := 318) (fn := Code.f318)); (iterate 3 exact rfl); exact rfl; (focus ((repeat' first | exact args_nil | apply args_d | exact toD_d rfl | exact all_nil | apply all_cons | exact rfl); done)); exact soil_gives (by assumption) _ _ (by omega)) | ((with_reducible first | apply WR.mv | apply WR.un | apply WR.pk); exact rfl; exact rfl) | ((with_reducible apply WR.off); exact rfl) | ((with_reducible apply WR.ld); (iterate 3 exact rfl); (first | exact loadC_all (IsLawn.len (by assumption)) | exact ldR (by omega))) | (with_reducible first | apply WR.nil | refine andThen_n ?_ | refine andThen_r ?_ | refine inB_n ?_ | refine inB_r ?_ | refine W.seq ?_ | refine W.region ?_ | refine W.skip ?_ | refine W.ret ?_ | refine W.block ?_) | ((with_reducible apply W.condT); exact rfl) | ((with_reducible apply W.condF); exact rfl) | ((with_reducible apply Done.f); (intro hh hh2; exact (nomatch hh2)); (focus ((repeat' first | exact all_nil | apply all_cons | exact res_tmp rfl | exact rfl); done)); (focus ((repeat' first | exact all_nil | apply all_cons | exact retOf_s rfl | exact rfl); done)); exact rfl; (focus ((repeat' first | exact outs_nil | apply outs_d | exact rfl); done))) | (intro hb; try (exfalso; omega)) | ((with_reducible first | apply WR.lss | apply WR.eql | apply WR.bC); iterate 3 exact rfl) | ((with_reducible apply WR.ad); (iterate 3 exact rfl); (first | assumption | exact i8_in _ (by omega))) | ((with_reducible first | apply WR.bsr | apply WR.ia); (iterate 3 exact rfl); omega) | ((with_reducible apply WR.ba1); (iterate 3 exact rfl); (assumption))
      · (refine W.nxt (x + 1) (by first | omega | (dsimp only; omega)) ?_ ⟨rfl, trivial⟩ trivial ⟨rfl, rfl, rfl, rfl, trivial⟩ ⟨rfl, rfl, trivial⟩ trivial); (try dsimp only)
        exact ⟨by omega, nxt fun _ => by assumption⟩
      · exact rb_f (fun hh => (by assumption : ¬ Soil w h g ((x : Nat) : Int) ((y : Nat) : Int)) (hh y hyl x hxl (by assumption)))
      · (refine W.nxt (x + 1) (by first | omega | (dsimp only; omega)) ?_ ⟨rfl, trivial⟩ trivial ⟨rfl, rfl, rfl, rfl, trivial⟩ ⟨rfl, rfl, trivial⟩ trivial); (try dsimp only)
        exact ⟨by omega, nxt fun hb' => absurd hb' (by assumption)⟩
    · repeat' first | ((with_reducible apply WR.mv); exact rfl; exact rfl) | (with_reducible first | apply WR.nil | refine andThen_n ?_ | refine andThen_x ?_ | refine inB_n ?_ | refine inB_x ?_ | refine W.seq ?_ | refine W.region ?_ | refine W.exit ?_) | ((with_reducible apply W.condF); exact rfl) | (intro hb; try (exfalso; omega)) | ((with_reducible apply WR.lss); iterate 3 exact rfl) | ((with_reducible apply WR.ad); (iterate 3 exact rfl); (exact i8_in _ (by omega)))
      (refine W.nxt (y + 1) (by first | omega | (dsimp only; omega)) ?_ ⟨rfl, trivial⟩ trivial ⟨rfl, rfl, trivial⟩ ⟨rfl, rfl, trivial⟩ trivial); (try dsimp only)
      refine ⟨by omega, fun y' hy' x' hx' hb' => ?_⟩
      by_cases e : y' = y
      · subst e; exact hX x' (by omega) hb'
      · exact hY y' (by omega) x' hx' hb'
  · have hall : WOk w h g q := fun y' hy' x hx hb => hY y' (by omega) x hx hb
    repeat' first | ((with_reducible apply WR.c_s (f := 30) (fn := Code.f30)); (iterate 3 exact rfl); exact rfl; (focus ((repeat' first | exact args_nil | apply args_d | exact toD_d rfl | exact all_nil | apply all_cons | exact rfl); done)); exact hV) | ((with_reducible apply WR.mv); exact rfl; exact rfl) | ((with_reducible apply WR.ld); (iterate 3 exact rfl); (exact loadC_all (IsLawn.len (by assumption)))) | (with_reducible first | apply WR.nil | refine andThen_n ?_ | refine andThen_x ?_ | refine inB_x ?_ | refine W.seq ?_ | refine W.region ?_ | refine W.ret ?_ | refine W.exit ?_) | ((with_reducible apply W.condF); exact rfl) | ((with_reducible apply Done.f); (intro hh hh2; exact (nomatch hh2)); (focus ((repeat' first | exact all_nil | apply all_cons | exact res_tmp rfl | exact rfl); done)); (focus ((repeat' first | exact all_nil | apply all_cons | exact retOf_s rfl | exact rfl); done)); exact rfl; (focus ((repeat' first | exact outs_nil | apply outs_d | exact rfl); done))) | (intro hb; try (exfalso; omega)) | ((with_reducible apply WR.lss); iterate 3 exact rfl)
    exact rb_t hall
theorem l07Ok_gives (l : IsLawn w h g cs) (hok : LawnOk w h g) (q : Nat → Int) (hq : WB q) : Gives G 300 [ar cs, ar (wR q)] (rb (decide (WOk w h g q))) := by
  have hs : w ≤ 10 ∧ h ≤ 10 := ⟨hok.1.2, hok.2.1.2⟩
  have hV := l01Ok_gives l
  rw [decide_eq_true hok] at hV
  refine Gives.by rfl rfl (W.seq ?_)
  repeat' first | ((with_reducible apply WR.c_s (f := 28) (fn := Code.f28)); (iterate 3 exact rfl); exact rfl; (focus ((repeat' first | exact args_nil | apply args_d | exact toD_d rfl | exact rfl); done)); exact hV) | ((with_reducible first | apply WR.mv | apply WR.un); exact rfl; exact rfl) | (with_reducible first | apply WR.nil | refine andThen_n ?_ | refine W.seq ?_ | refine W.region ?_ | refine W.skip ?_ | refine W.block ?_) | ((with_reducible apply W.condF); exact rfl)
  (refine (?_ : W _ (Code.loop _) _ _))
  (refine W.loopM [0, 1] [] [] (fun y : (Nat) => (10 - y : Nat)) (fun y : (Nat) => (y ≤ 10 ∧ ∀ y', y' < y → ∀ x, x < 16 → bitQ q y' x → Soil w h g ((x : Nat) : Int) ((y' : Nat) : Int) : Prop)) (fun y : (Nat) => [(5, .a (.d (.s (.int .i8 (y : Nat)))))]) (fun y : (Nat) => []) 0 (⟨by omega, fun y' h => by omega⟩) ⟨rfl, trivial⟩ trivial trivial ?_)
  rintro y σ hP hN; dsimp only [setL, putL] at hP ⊢
  obtain ⟨hy, hY⟩ := hP
  by_cases hyl : y < 10
  · have hqy := hq y hyl
    repeat' first | ((with_reducible apply WR.mv); exact rfl; exact rfl) | (with_reducible first | apply WR.nil | refine andThen_n ?_ | refine W.seq ?_ | refine W.region ?_ | refine W.skip ?_ | refine W.block ?_) | ((with_reducible apply W.condT); exact rfl) | (intro hb; try (exfalso; omega)) | ((with_reducible apply WR.lss); iterate 3 exact rfl)
    (refine (?_ : W _ (Code.loop _) _ _))
    (refine W.loopM [0, 1, 5] [] [] (fun x : (Nat) => (16 - x : Nat)) (fun x : (Nat) => (x ≤ 16 ∧ ∀ x', x' < x → bitQ q y x' → Soil w h g ((x' : Nat) : Int) ((y : Nat) : Int) : Prop)) (fun x : (Nat) => [(6, .a (.d (.s (.int .i8 (x : Nat)))))]) (fun x : (Nat) => []) 0 (⟨by omega, fun x' h => by omega⟩) ⟨rfl, trivial⟩ trivial trivial ?_)
    rintro x σ hP hN; dsimp only [setL, putL] at hP ⊢
    obtain ⟨hx, hX⟩ := hP
    by_cases hxl : x < 16
    · have hdv := div_b hqy x
      have nxt : (bitQ q y x → Soil w h g ((x : Nat) : Int) ((y : Nat) : Int)) → ∀ x', x' < x + 1 → bitQ q y x' → Soil w h g ((x' : Nat) : Int) ((y : Nat) : Int) := fun hn x' hx' hb => by
        by_cases e : x' = x
        · subst e; exact hn hb
        · exact hX x' (by omega) hb
      have ht : (q y / 2 ^ x).tmod 2 = 1 ↔ bitQ q y x := by
        rw [Int.tmod_eq_emod_of_nonneg hdv.1]; exact Iff.rfl
      repeat' first | ((with_reducible apply WR.c_p (f := 316) (fn := Code.f316)); (iterate 3 exact rfl); exact rfl; (focus ((repeat' first | exact args_nil | apply args_d | exact toD_d rfl | exact all_nil | apply all_cons | exact rfl); done)); exact l07Soil_gives (by assumption) _ _ (by omega) (by omega)) | ((with_reducible first | apply WR.mv | apply WR.un | apply WR.pk | apply WR.nc); exact rfl; exact rfl) | ((with_reducible apply WR.off); exact rfl) | (with_reducible first | apply WR.nil | refine andThen_n ?_ | refine andThen_r ?_ | refine inB_n ?_ | refine inB_r ?_ | refine W.seq ?_ | refine W.region ?_ | refine W.skip ?_ | refine W.ret ?_ | refine W.block ?_) | ((with_reducible apply W.condT); exact rfl) | ((with_reducible apply W.condF); exact rfl) | ((with_reducible apply Done.f); (intro hh hh2; exact (nomatch hh2)); (focus ((repeat' first | exact all_nil | apply all_cons | exact res_tmp rfl | exact rfl); done)); (focus ((repeat' first | exact all_nil | apply all_cons | exact retOf_s rfl | exact rfl); done)); exact rfl; (focus ((repeat' first | exact outs_nil | apply outs_d | exact rfl); done))) | (intro hb; try (exfalso; omega)) | ((with_reducible first | apply WR.lss | apply WR.eql | apply WR.bC); iterate 3 exact rfl) | ((with_reducible apply WR.ad); (iterate 3 exact rfl); (first | exact i8_in _ (by omega) | exact u64_in _ (by omega))) | ((with_reducible first | apply WR.bsr | apply WR.rem | apply WR.iar); (iterate 3 exact rfl); omega) | ((with_reducible apply WR.cv); exact rfl; exact rfl; (first | exact i8_in _ (by omega) | exact u64_in _ (by omega))) | ((with_reducible apply WR.ldd); exact rfl; exact rfl; (exact ldR (by omega)))
      · (refine W.nxt (x + 1) (by first | omega | (dsimp only; omega)) ?_ ⟨rfl, trivial⟩ trivial ⟨rfl, rfl, rfl, trivial⟩ trivial trivial); (try dsimp only)
        exact ⟨by omega, nxt fun _ => by assumption⟩
      · exact rb_f (fun hh => (by assumption : ¬ Soil w h g ((x : Nat) : Int) ((y : Nat) : Int)) (hh y hyl x hxl (ht.1 (by assumption))))
      · (refine W.nxt (x + 1) (by first | omega | (dsimp only; omega)) ?_ ⟨rfl, trivial⟩ trivial ⟨rfl, rfl, rfl, trivial⟩ trivial trivial); (try dsimp only)
        exact ⟨by omega, nxt fun hb' => absurd (ht.2 hb') (by assumption)⟩
    · repeat' first | ((with_reducible apply WR.mv); exact rfl; exact rfl) | (with_reducible first | apply WR.nil | refine andThen_n ?_ | refine andThen_x ?_ | refine inB_n ?_ | refine inB_x ?_ | refine W.seq ?_ | refine W.region ?_ | refine W.exit ?_) | ((with_reducible apply W.condF); exact rfl) | (intro hb; try (exfalso; omega)) | ((with_reducible apply WR.lss); iterate 3 exact rfl) | ((with_reducible apply WR.ad); (iterate 3 exact rfl); (exact i8_in _ (by omega)))
      (refine W.nxt (y + 1) (by first | omega | (dsimp only; omega)) ?_ ⟨rfl, trivial⟩ trivial ⟨rfl, rfl, trivial⟩ trivial trivial); (try dsimp only)
      refine ⟨by omega, fun y' hy' x' hx' hb' => ?_⟩
      by_cases e : y' = y
      · subst e; exact hX x' (by omega) hb'
      · exact hY y' (by omega) x' hx' hb'
  · have hall : WOk w h g q := fun y' hy' x hx hb => hY y' (by omega) x hx hb
    repeat' first | ((with_reducible apply WR.mv); exact rfl; exact rfl) | (with_reducible first | apply WR.nil | refine andThen_n ?_ | refine andThen_x ?_ | refine inB_x ?_ | refine W.seq ?_ | refine W.region ?_ | refine W.ret ?_ | refine W.exit ?_) | ((with_reducible apply W.condF); exact rfl) | ((with_reducible apply Done.f); (intro hh hh2; exact (nomatch hh2)); (focus ((repeat' first | exact all_nil | apply all_cons | exact res_tmp rfl); done)); (focus ((repeat' first | exact all_nil | apply all_cons | exact retOf_s rfl); done)); exact rfl; (focus ((repeat' first | exact outs_nil | apply outs_d); done))) | (intro hb; try (exfalso; omega)) | ((with_reducible apply WR.lss); iterate 3 exact rfl)
    exact rb_t hall
end Go.DM
