/- Where two robots meet: both sides, the statement. -/
import Derived.Test.YtadlffkjghjciaaGreatDoorK380Battery
import Derived.Test.YtadlffkjghjciaaGreatDoorK380Beside
import Derived.Test.YtadlffkjghjciaaGreatDoorK380Gone
set_option linter.unusedSectionVars false
set_option linter.unusedSimpArgs false
set_option linter.unusedVariables false
set_option maxHeartbeats 4000000
namespace Go.DM
variable [Tok]
open Go.IntWalk
variable {w h : Int} {g : Nat → Int} {cs : List S}
theorem ix_inj (hs : w ≤ 10 ∧ h ≤ 10) {a b : Cel} (ha : Has w h a.1 a.2) (hb : Has w h b.1 b.2) (e : ix a = ix b) : a = b := by
  simp only [Has] at ha hb
  simp only [ix] at e
  exact Prod.ext (by omega) (by omega)
theorem bfs_ok {ok : Cel → Prop} [DecidablePred ok] (hs : w ≤ 10 ∧ h ≤ 10) (hok : ∀ e, ok e → Has w h e.1 e.2) {R : Cel → Prop} (hR : ∀ e, ok e → R e) : ∀ (n : Nat) {s : (Nat → Int) × List Cel}, (∀ e, Has w h e.1 e.2 → 0 ≤ s.1 (ix e) → R e) → ∀ e, Has w h e.1 e.2 → 0 ≤ bfs ok n s (ix e) → R e
  | 0, s, b, e, he, h0 => b e he h0
  | n + 1, (d, []), b, e, he, h0 => b e he h0
  | n + 1, (d, c :: r), b, e, he, h0 => by
    have key : ∀ (L : List Cel) (s : (Nat → Int) × List Cel), (∀ e, Has w h e.1 e.2 → 0 ≤ s.1 (ix e) → R e) → ∀ e, Has w h e.1 e.2 → 0 ≤ (L.foldl (visit ok c) s).1 (ix e) → R e := by
      intro L
      induction L with
      | nil => intro s b; exact b
      | cons a L ih =>
        intro s b
        refine ih _ ?_
        intro e he
        unfold visit
        split
        · rename_i hh
          intro h1
          simp only [gset] at h1
          split at h1
          · rename_i h2; rw [ix_inj hs he (hok a hh.1) h2]; exact hR a hh.1
          · exact b e he h1
        · exact b e he
    exact bfs_ok hs hok hR n (key (Near c.1 c.2) (d, r) b) e he h0
theorem steps_open (hs : w ≤ 10 ∧ h ≤ 10) {c : Cel} (hc : Opn w h g c.1 c.2) {e : Cel} (he : Has w h e.1 e.2) (h0 : 0 ≤ steps w h g c (ix e)) : Opn w h g e.1 e.2 := by
  refine bfs_ok (R := fun e => Opn w h g e.1 e.2) hs (fun e he => he.1) (fun e he => ⟨he.1, he.2.imp id fun h => h.2⟩) 100 ?_ e he h0
  intro a ha h1
  simp only [gset] at h1
  split at h1
  · rename_i h2; rw [ix_inj hs ha hc.1 h2]; exact hc
  · omega
def meet (X Y : Nat → Int) (s : Cel × Int) (c : Cel) : Cel × Int := if (0 ≤ X (ix c) ∧ 0 ≤ Y (ix c)) ∧ (s.2 < 0 ∨ max (X (ix c)) (Y (ix c)) < s.2) then (c, max (X (ix c)) (Y (ix c))) else s
end Go.DM

/- Whether a way mows all grass: both sides, the statement. -/
set_option maxHeartbeats 4000000
namespace Go.DM
variable [Tok]
open Go.IntWalk
variable {w h : Int} {g : Nat → Int} {cs : List S}
theorem contains_gives (L : List Cel) (hl : L.length ≤ 1000) (x y : Int) : Gives G 83 [asl L, ac x y] (rb (decide ((x, y) ∈ L))) := by
  have hi := index_gives L hl x y
  have hm : (0 ≤ idxOf (fun c => x = c.1 ∧ y = c.2) L 0) ↔ (x, y) ∈ L := by
    rw [idxOf_nonneg _ L 0 (by omega)]
    constructor
    · rintro ⟨c, h1, h2, h3⟩
      obtain ⟨a, b⟩ := c
      simp only at h2 h3
      rw [h2, h3]; exact h1
    · intro h1; exact ⟨_, h1, rfl, rfl⟩
  generalize idxOf (fun c => x = c.1 ∧ y = c.2) L 0 = k at hi hm
  refine Gives.by rfl rfl (W.seq ?_)
  repeat' first | ((with_reducible apply WR.c_s (f := 27) (fn := Code.f27)); exact rfl; exact rfl; exact rfl; (exact rfl); (focus ((repeat' first | exact args_nil | apply args_d | exact toD_d rfl | exact all_nil | apply all_cons | exact rfl); done)); exact hi) | ((with_reducible apply WR.mv); exact rfl; exact rfl) | ((with_reducible apply WR.nil)) | (with_reducible refine andThen_n ?_) | (with_reducible refine W.seq ?_) | (with_reducible refine W.region ?_) | (with_reducible refine W.ret ?_) | ((with_reducible apply Done.f); (intro hh hh2; exact (nomatch hh2)); (focus ((repeat' first | exact all_nil | apply all_cons | exact res_tmp rfl | exact rfl); done)); (focus ((repeat' first | exact all_nil | apply all_cons | exact retOf_s rfl | exact rfl); done)); exact rfl; (focus ((repeat' first | exact outs_nil | apply outs_d | exact rfl); done))) | (intro hb; try (exfalso; omega)) | ((with_reducible apply WR.geq); exact rfl; exact rfl; exact rfl) | ((with_reducible apply WR.bx); exact rfl; exact rfl; exact (by first | exact rfl); (exact rfl)) | ((with_reducible apply WR.ld); exact rfl; exact rfl; exact rfl; (first | exact ld2))
  · exact rb_t (hm.1 (by assumption))
  · exact rb_f (fun hh => absurd (hm.2 hh) (by assumption))
theorem leftF_gives (l : IsLawn w h g cs) (hs : w ≤ 10 ∧ h ≤ 10) (L : List Cel) (hl : L.length ≤ 1000) (x y : Int) : Gives G 82 [ac x y, ar cs, .d (.refd (.sl L.length 2 (encC L)))] (rb (decide (Is w h g 0 x y ∧ (x, y) ∉ L))) := by
  have hg := grass_gives l x y (.inl hs)
  have hc := contains_gives L hl x y
  refine Gives.by rfl rfl (W.seq ?_)
  repeat' first | ((with_reducible apply WR.c_p (f := 32) (fn := Code.f32)); exact rfl; exact rfl; exact rfl; (exact rfl); (focus ((repeat' first | exact args_nil | apply args_d | exact toD_d rfl | exact all_nil | apply all_cons | exact rfl); done)); exact hg) | ((with_reducible apply WR.c_p (f := 83) (fn := Code.f83)); exact rfl; exact rfl; exact rfl; (exact rfl); (focus ((repeat' first | exact args_nil | apply args_d | exact toD_d rfl | exact all_nil | apply all_cons | exact rfl); done)); exact hc) | ((with_reducible apply WR.ld); exact rfl; exact rfl; exact rfl; (first | exact ld2 | exact loadC_all (IsLawn.len (by assumption)))) | ((with_reducible apply WR.ldr); exact rfl; exact rfl; (first | exact ld2 | exact loadC_all (IsLawn.len (by assumption)))) | ((with_reducible apply WR.lx); exact rfl; exact rfl) | ((with_reducible apply WR.mv); exact rfl; exact rfl) | ((with_reducible apply WR.nil)) | (with_reducible refine andThen_n ?_) | (with_reducible refine W.seq ?_) | (with_reducible refine W.region ?_) | (with_reducible refine W.ret ?_) | ((with_reducible apply Done.f); (intro hh hh2; exact (nomatch hh2)); (focus ((repeat' first | exact all_nil | apply all_cons | exact res_tmp rfl | exact rfl); done)); (focus ((repeat' first | exact all_nil | apply all_cons | exact retOf_s rfl | exact rfl); done)); exact rfl; (focus ((repeat' first | exact outs_nil | apply outs_d | exact rfl); done))) | (intro hb; try (exfalso; omega)) | ((with_reducible apply WR.off); exact rfl) | ((with_reducible apply WR.bx); exact rfl; exact rfl; exact (by first | exact rfl); (exact rfl)) | ((with_reducible apply WR.un); exact rfl; exact rfl) | ((with_reducible apply WR.pk); exact rfl; exact rfl)
  all_goals first
    | exact rb_t ⟨by assumption, by assumption⟩
    | exact rb_f (fun hh => absurd hh.1 (by assumption))
    | exact rb_f (fun hh => absurd (by assumption) hh.2)
theorem holds_left (l : IsLawn w h g cs) (hs : w ≤ 10 ∧ h ≤ 10) (L : List Cel) (hl : L.length ≤ 1000) :
    HoldsC G (.clo 82 [] [.ref cs, .refd (.sl L.length 2 (encC L))]) (fun c => Is w h g 0 c.1 c.2 ∧ c ∉ L) (fun _ => True) :=
  ⟨82, Code.f82, _, _, rfl, rfl, rfl, fun c _ => leftF_gives l hs L hl c.1 c.2⟩
def leftL (w h : Int) (g : Nat → Int) (L : List Cel) : List Cel := those w h fun c => Is w h g 0 c.1 c.2 ∧ c ∉ L
theorem leftBy_gives (l : IsLawn w h g cs) (c : Cel) (s : List UInt8) :
    Gives G 41 [aa cs, ac c.1 c.2, .d (.s (.str s))] (if goneC w h g c s = 0 then ⟨[.own (leftL w h g (trk s c s.length)).length 2 (encC (leftL w h g (trk s c s.length))), .s (.int .i64 0)], []⟩ else ⟨[.s .nils, .s (.int .i64 (goneC w h g c s))], []⟩) := by
  have hw := walked_gives l c s
  by_cases h0 : goneC w h g c s = 0
  · obtain ⟨ht, hO⟩ := gone_zero h0
    obtain ⟨hs, hH, hl, hlt⟩ := told_ok ht
    have hlen := trk_len s c s.length
    rw [if_pos h0] at hw ⊢
    have hth := those_gives l (by omega) (holds_left l ⟨by omega, by omega⟩ (trk s c s.length) (by omega)) (fun _ _ => trivial)
    unfold leftL
    generalize trk s c s.length = T at hw hth hlen ⊢
    generalize those w h (fun c => Is w h g 0 c.1 c.2 ∧ c ∉ T) = R at hth ⊢
    refine Gives.by rfl rfl (W.seq ?_)
    repeat' first | ((with_reducible apply WR.c_os (f := 81) (fn := Code.f81)); exact rfl; exact rfl; exact rfl; (exact rfl); (focus ((repeat' first | exact args_nil | apply args_d | exact toD_d rfl | exact toD_ptr rfl rfl | exact toD_slC rfl rfl (by first | exact rfl) | (apply toD_clo; exact rfl) | exact all_nil | apply all_cons | (apply toDA_var; exact rfl) | exact rfl); done)); exact hw; (exact rfl)) | ((with_reducible apply WR.c_o (f := 31) (fn := Code.f31)); exact rfl; exact rfl; exact rfl; (exact rfl); (focus ((repeat' first | exact args_nil | apply args_d | exact toD_d rfl | exact toD_ptr rfl rfl | exact toD_slC rfl rfl (by first | exact rfl) | (apply toD_clo; exact rfl) | exact all_nil | apply all_cons | (apply toDA_var; exact rfl) | exact rfl); done)); exact hth; (exact rfl)) | ((with_reducible apply WR.mv); exact rfl; exact rfl) | ((with_reducible apply WR.mvt); exact rfl; exact rfl) | ((with_reducible apply WR.ld); exact rfl; exact rfl; exact rfl; (first | exact ld2 | exact loadC_all (IsLawn.len (by assumption)))) | ((with_reducible apply WR.nil)) | (with_reducible refine andThen_n ?_) | (with_reducible refine W.seq ?_) | (with_reducible refine W.region ?_) | (with_reducible refine W.skip ?_) | (with_reducible refine W.ret ?_) | ((with_reducible apply W.condF); exact rfl) | ((with_reducible apply Done.f); (intro hh hh2; exact (nomatch hh2)); (focus ((repeat' first | exact all_nil | apply all_cons | exact res_tmp rfl | exact rfl); done)); (focus ((repeat' first | exact all_nil | apply all_cons | exact retOf_s rfl | exact retOf_o rfl rfl (by first | exact encC_length _ | exact IsLawn.len (by assumption) | exact rfl) | exact rfl); done)); exact rfl; (focus ((repeat' first | exact outs_nil | apply outs_d | exact rfl); done))) | (intro hb; try (exfalso; omega)) | ((with_reducible apply WR.bx); exact rfl; exact rfl; exact (by first | exact encC_length _ | exact IsLawn.len (by assumption) | exact rfl); (exact rfl)) | ((with_reducible apply WR.ex); exact rfl; exact rfl) | ((with_reducible apply WR.neq); exact rfl; exact rfl; exact rfl) | ((with_reducible apply WR.mf); exact rfl; exact rfl) | ((with_reducible apply WR.al); exact rfl; (exact rfl)) | ((with_reducible apply WR.st); exact rfl; exact rfl; exact rfl; exact rfl)
    all_goals rfl
  · rw [if_neg h0] at hw ⊢
    refine Gives.by rfl rfl (W.seq ?_)
    repeat' first | ((with_reducible apply WR.c_ss (f := 81) (fn := Code.f81)); exact rfl; exact rfl; exact rfl; (exact rfl); (focus ((repeat' first | exact args_nil | apply args_d | exact toD_d rfl | exact all_nil | apply all_cons | exact rfl); done)); exact hw) | ((with_reducible apply WR.mv); exact rfl; exact rfl) | ((with_reducible apply WR.mvt); exact rfl; exact rfl) | ((with_reducible apply WR.ld); exact rfl; exact rfl; exact rfl; (first | exact ld2 | exact loadC_all (IsLawn.len (by assumption)))) | ((with_reducible apply WR.nil)) | (with_reducible refine andThen_n ?_) | (with_reducible refine andThen_r ?_) | (with_reducible refine W.seq ?_) | (with_reducible refine W.region ?_) | (with_reducible refine W.ret ?_) | ((with_reducible apply W.condT); exact rfl) | ((with_reducible apply Done.f); (intro hh hh2; exact (nomatch hh2)); (focus ((repeat' first | exact all_nil | apply all_cons | exact res_tmp rfl | exact rfl); done)); (focus ((repeat' first | exact all_nil | apply all_cons | exact retOf_s rfl | exact rfl); done)); exact rfl; (focus ((repeat' first | exact outs_nil | apply outs_d | exact rfl); done))) | (intro hb; try (exfalso; omega)) | ((with_reducible apply WR.bx); exact rfl; exact rfl; exact (by first | exact IsLawn.len (by assumption) | exact rfl); (exact rfl)) | ((with_reducible apply WR.ex); exact rfl; exact rfl) | ((with_reducible apply WR.neq); exact rfl; exact rfl; exact rfl) | ((with_reducible apply WR.al); exact rfl; (exact rfl)) | ((with_reducible apply WR.st); exact rfl; exact rfl; exact rfl; exact storeAll (by first | exact IsLawn.len (by assumption) | exact rfl) (by first | exact IsLawn.len (by assumption) | exact rfl))
    all_goals first | rfl | exact absurd (by assumption) h0
theorem isWhole_gives (l : IsLawn w h g cs) (c : Cel) (s : List UInt8) :
    Gives G 18 [aa cs, ac c.1 c.2, .d (.s (.str s))] ⟨[.s (.bool (decide (goneC w h g c s = 0 ∧ (leftL w h g (trk s c s.length)).length = 0))), .s (.int .i64 (goneC w h g c s))], []⟩ := by
  have hw := leftBy_gives l c s
  generalize leftL w h g (trk s c s.length) = T at hw ⊢
  by_cases h0 : goneC w h g c s = 0
  · rw [if_pos h0] at hw
    rw [h0]
    refine Gives.by rfl rfl (W.seq ?_)
    repeat' first | ((with_reducible apply WR.c_os (f := 41) (fn := Code.f41)); exact rfl; exact rfl; exact rfl; (exact rfl); (focus ((repeat' first | exact args_nil | apply args_d | exact toD_d rfl | exact all_nil | apply all_cons | exact rfl); done)); exact hw; (exact rfl)) | ((with_reducible apply WR.mv); exact rfl; exact rfl) | ((with_reducible apply WR.mvt); exact rfl; exact rfl) | ((with_reducible apply WR.nil)) | (with_reducible refine andThen_n ?_) | (with_reducible refine W.seq ?_) | (with_reducible refine W.region ?_) | (with_reducible refine W.ret ?_) | ((with_reducible apply Done.f); (intro hh hh2; exact (nomatch hh2)); (focus ((repeat' first | exact all_nil | apply all_cons | exact res_tmp rfl | exact rfl); done)); (focus ((repeat' first | exact all_nil | apply all_cons | exact retOf_s rfl | exact rfl); done)); exact rfl; (focus ((repeat' first | exact outs_nil | apply outs_d | exact rfl); done))) | (intro hb; try (exfalso; omega)) | ((with_reducible apply WR.eql); exact rfl; exact rfl; exact rfl) | ((with_reducible apply WR.bx); exact rfl; exact rfl; exact (by first | exact IsLawn.len (by assumption) | exact rfl); (exact rfl)) | ((with_reducible apply WR.ld); exact rfl; exact rfl; exact rfl; (first | exact ld2 | exact loadC_all (IsLawn.len (by assumption)))) | ((with_reducible apply WR.ex); exact rfl; exact rfl) | ((with_reducible apply WR.pk); exact rfl; exact rfl) | ((with_reducible apply WR.le); exact rfl; exact rfl)
    · rw [decide_eq_true ⟨rfl, by omega⟩]; rfl
    · rw [decide_eq_false (fun hh => by have := hh.2; omega)]; rfl
  · rw [if_neg h0] at hw
    refine Gives.by rfl rfl (W.seq ?_)
    repeat' first | ((with_reducible apply WR.c_ss (f := 41) (fn := Code.f41)); exact rfl; exact rfl; exact rfl; (exact rfl); (focus ((repeat' first | exact args_nil | apply args_d | exact toD_d rfl | exact all_nil | apply all_cons | exact rfl); done)); exact hw) | ((with_reducible apply WR.mv); exact rfl; exact rfl) | ((with_reducible apply WR.mvt); exact rfl; exact rfl) | ((with_reducible apply WR.nil)) | (with_reducible refine andThen_n ?_) | (with_reducible refine W.seq ?_) | (with_reducible refine W.region ?_) | (with_reducible refine W.ret ?_) | ((with_reducible apply Done.f); (intro hh hh2; exact (nomatch hh2)); (focus ((repeat' first | exact all_nil | apply all_cons | exact res_tmp rfl | exact rfl); done)); (focus ((repeat' first | exact all_nil | apply all_cons | exact retOf_s rfl | exact rfl); done)); exact rfl; (focus ((repeat' first | exact outs_nil | apply outs_d | exact rfl); done))) | (intro hb; try (exfalso; omega)) | ((with_reducible apply WR.eql); exact rfl; exact rfl; exact rfl) | ((with_reducible apply WR.bx); exact rfl; exact rfl; exact (by first | exact IsLawn.len (by assumption) | exact rfl); (exact rfl)) | ((with_reducible apply WR.ld); exact rfl; exact rfl; exact rfl; (first | exact ld2 | exact loadC_all (IsLawn.len (by assumption)))) | ((with_reducible apply WR.ex); exact rfl; exact rfl) | ((with_reducible apply WR.off); exact rfl) | ((with_reducible apply WR.pk); exact rfl; exact rfl)
    rw [decide_eq_false (fun hh => h0 hh.1)]; rfl
def timesF (g : Nat → Int) (L : List Cel) : Nat → Int := L.foldl (fun q e => if g (ix e) = 0 then gset q (ix e) (q (ix e) + 1) else q) fun _ => 0
theorem l02Times_gives (l : IsLawn w h g cs) (hs : w ≤ 10 ∧ h ≤ 10) (L : List Cel) (hl : L.length ≤ 1000) (hL : ∀ e ∈ L, Has w h e.1 e.2) : Gives G 80 [ar cs, asl L] ⟨[.agg (grid .i64 (timesF g L))], []⟩ := by
  refine Gives.by rfl rfl (W.seq ?_)
  repeat' first | ((with_reducible apply WR.mv); exact rfl; exact rfl) | ((with_reducible apply WR.nil)) | (with_reducible refine andThen_n ?_) | (with_reducible refine W.seq ?_) | (with_reducible refine W.region ?_) | (with_reducible refine W.block ?_) | ((with_reducible apply WR.al); exact rfl; (exact rfl)) | ((with_reducible apply WR.st); exact rfl; exact rfl; exact rfl; exact storeAll (by first | exact List.length_replicate .. | exact rfl) (by first | exact List.length_replicate .. | exact rfl)) | ((with_reducible apply WR.bu); exact rfl; exact rfl)
  (refine (?_ : W _ (Code.loop _) _ _))
  (refine W.loopM [0, 1, 4, 5] [4] [] (fun zz : (Nat) × (Nat → Int) => match zz with | (i, q) => (L.length - i : Nat)) (fun zz : (Nat) × (Nat → Int) => match zz with | (i, q) => (i ≤ L.length ∧ q = timesF g (L.take i) ∧ ∀ k, 0 ≤ q k ∧ q k ≤ i : Prop)) (fun zz : (Nat) × (Nat → Int) => match zz with | (i, q) => [(6, .a (.d (.s (.int .i64 (i : Nat)))))]) (fun zz : (Nat) × (Nat → Int) => match zz with | (i, q) => [(5, .flat false (grid .i64 q))]) (0, fun _ => 0) (⟨by omega, rfl, fun k => by simp⟩) ⟨rfl, trivial⟩ ⟨rfl, trivial⟩ trivial ?_)
  rintro ⟨i, q⟩ σ hP hN; dsimp only [setL, putL] at hP ⊢
  obtain ⟨hi, hq, hb0⟩ := hP
  by_cases hil : i < L.length
  · have hH := hL _ (gC_mem hil)
    have hst : timesF g (L.take (i + 1)) = if g (ix (gC L i)) = 0 then gset q (ix (gC L i)) (q (ix (gC L i)) + 1) else q := by
      unfold timesF at hq ⊢
      rw [fold_snoc _ (gC_get hil), ← hq]
    have hbi := hb0 (10 * (gC L i).2.toNat + (gC L i).1.toNat)
    repeat' first | ((with_reducible apply WR.c_s (f := 61) (fn := Code.f61)); exact rfl; exact rfl; exact rfl; (exact rfl); (focus ((repeat' first | exact args_nil | apply args_d | exact toD_d rfl | exact rfl); done)); exact l01At_gives (by assumption) _ _ (by omega)) | ((with_reducible apply WR.mv); exact rfl; exact rfl) | ((with_reducible apply WH.mv); exact rfl; exact rfl; exact rfl) | ((with_reducible apply WH.ia); exact rfl; exact rfl; exact rfl; omega; exact rfl) | ((with_reducible apply WR.nil)) | (with_reducible refine andThen_n ?_) | (with_reducible refine inB_n ?_) | (with_reducible refine W.seq ?_) | (with_reducible refine W.region ?_) | (with_reducible refine W.skip ?_) | (with_reducible refine W.block ?_) | ((with_reducible apply W.condT); exact rfl) | ((with_reducible apply W.condF); exact rfl) | ((with_reducible apply WH.ld); exact rfl; exact rfl; exact rfl; (first | exact ldCd (by first | omega) | exact ldCxd (by first | omega) | exact ldCyd (by first | omega) | exact ldG (by omega)); exact rfl) | ((with_reducible apply WH.ldd); exact rfl; exact rfl; (first | exact ldCd (by first | omega) | exact ldCxd (by first | omega) | exact ldCyd (by first | omega) | exact ldG (by omega)); exact rfl) | ((with_reducible apply WH.nil)) | (with_reducible refine W.draw ?_) | (intro hb; try (exfalso; omega)) | ((with_reducible apply WR.ldd); exact rfl; exact rfl; (first | exact ldCd (by first | omega) | exact ldCxd (by first | omega) | exact ldCyd (by first | omega) | exact ldG (by omega))) | ((with_reducible apply WH.idn); exact rfl; exact rfl; exact rfl; omega; (first | exact Nat.le_of_eq (encC_length _).symm); exact rfl) | ((with_reducible apply WH.fa); exact rfl; exact rfl; exact rfl) | ((with_reducible apply WR.lss); exact rfl; exact rfl; exact rfl) | ((with_reducible apply WR.eql); exact rfl; exact rfl; exact rfl) | ((with_reducible apply WR.ad); exact rfl; exact rfl; exact rfl; (first | exact i64_in _ (by omega))) | ((with_reducible apply WR.idn); exact rfl; exact rfl; exact rfl; omega; (first | exact Nat.le_of_eq (encC_length _).symm)) | ((with_reducible apply WR.le); exact rfl; exact rfl) | ((with_reducible apply WH.ad); exact rfl; exact rfl; exact rfl; (first | exact i64_in _ (by omega))) | ((with_reducible apply WH.st); exact rfl; exact rfl; exact rfl; exact stG (by omega); exact rfl; exact rfl)
    · rw [if_pos (show g (ix (gC L i)) = 0 by assumption)] at hst
      (refine W.nxt (i + 1, gset q (ix (gC L i)) (q (ix (gC L i)) + 1)) (by first | omega | (dsimp only; omega)) ?_ ⟨rfl, trivial⟩ ⟨rfl, trivial⟩ ⟨rfl, rfl, rfl, rfl, trivial⟩ ⟨rfl, trivial⟩ trivial); (try dsimp only)
      refine ⟨by omega, hst.symm, fun k => ?_⟩
      have h1 := hb0 k
      simp only [gset]
      split
      · have h2 := hb0 (ix (gC L i)); omega
      · omega
    · rw [if_neg (show ¬ g (ix (gC L i)) = 0 by assumption)] at hst
      (refine W.nxt (i + 1, q) (by first | omega | (dsimp only; omega)) ?_ ⟨rfl, trivial⟩ ⟨rfl, trivial⟩ ⟨rfl, rfl, rfl, rfl, trivial⟩ ⟨rfl, trivial⟩ trivial); (try dsimp only)
      exact ⟨by omega, hq.symm ▸ hst.symm, fun k => by have h1 := hb0 k; omega⟩
  · have hil2 : L.take i = L := List.take_of_length_le (by omega)
    rw [hil2] at hq
    rw [← hq]
    repeat' first | ((with_reducible apply WR.mv); exact rfl; exact rfl) | ((with_reducible apply WR.nil)) | (with_reducible refine andThen_n ?_) | (with_reducible refine andThen_x ?_) | (with_reducible refine inB_x ?_) | (with_reducible refine W.seq ?_) | (with_reducible refine W.region ?_) | (with_reducible refine W.ret ?_) | (with_reducible refine W.exit ?_) | ((with_reducible apply W.condF); exact rfl) | ((with_reducible apply Done.f); (intro hh hh2; exact (nomatch hh2)); (focus ((repeat' first | exact all_nil | apply all_cons | exact res_cell rfl rfl (by first | exact List.length_replicate .. | exact grid_len)); done)); (focus ((repeat' first | exact all_nil | apply all_cons | exact retOf_a rfl); done)); exact rfl; (focus ((repeat' first | exact outs_nil | apply outs_d); done))) | (intro hb; try (exfalso; omega)) | ((with_reducible apply WR.ld); exact rfl; exact rfl; exact rfl; (first | exact loadC_all grid_len)) | ((with_reducible apply WR.st); exact rfl; exact rfl; exact rfl; exact storeAll (by first | exact List.length_replicate .. | exact grid_len) (by first | exact List.length_replicate .. | exact grid_len)) | ((with_reducible apply WR.lss); exact rfl; exact rfl; exact rfl) | ((with_reducible apply WR.le); exact rfl; exact rfl)
    all_goals rfl
def mownL (w h : Int) (g : Nat → Int) (T : List Cel) (b : Bool) : List Cel := (ofKind w h g 0).filter fun e => decide (timesF g T (ix e) > 0) == b
theorem timesF_b : ∀ (T : List Cel) (q : Nat → Int) (n : Int), (∀ k, 0 ≤ q k ∧ q k ≤ n) → ∀ k, 0 ≤ T.foldl (fun q e => if g (ix e) = 0 then gset q (ix e) (q (ix e) + 1) else q) q k ∧ T.foldl (fun q e => if g (ix e) = 0 then gset q (ix e) (q (ix e) + 1) else q) q k ≤ n + T.length
  | [], q, n, hq, k => by have := hq k; simp; omega
  | e :: r, q, n, hq, k => by
    rw [List.foldl_cons]
    have := timesF_b r (if g (ix e) = 0 then gset q (ix e) (q (ix e) + 1) else q) (n + 1) (fun k => by
      have h1 := hq k
      split
      · simp only [gset]
        split
        · have h2 := hq (ix e); omega
        · omega
      · omega) k
    rw [List.length_cons]
    omega
theorem l02Mown_gives (l : IsLawn w h g cs) (hs : 0 ≤ w ∧ w ≤ 10 ∧ 0 ≤ h ∧ h ≤ 10) (T : List Cel) (hT : T.length ≤ 1000) (hTh : ∀ e ∈ T, Has w h e.1 e.2) (b : Bool) : Gives G 40 [ar cs, asl T, ab b] ⟨[.own (mownL w h g T b).length 2 (encC (mownL w h g T b))], []⟩ := by
  have hth := l01Cells_gives l 0 (by omega)
  have htm := l02Times_gives l ⟨by omega, by omega⟩ T hT hTh
  have hqb : ∀ k, 0 ≤ timesF g T k ∧ timesF g T k ≤ 1000 := fun k => by
    have := timesF_b (g := g) T (fun _ => 0) 0 (fun k => by simp) k
    unfold timesF; omega
  have hin : ∀ e ∈ ofKind w h g 0, Has w h e.1 e.2 := fun e he => by
    unfold ofKind at he; rw [List.mem_filter] at he; exact allC_mem he.1
  have hLl : (ofKind w h g 0).length ≤ 100 := Nat.le_trans (List.length_filter_le ..) (allC_len ⟨by omega, by omega⟩)
  have hbd : mownL w h g T b = (ofKind w h g 0).filter fun e => decide (timesF g T (ix e) > 0) == b := rfl
  generalize mownL w h g T b = R at hbd ⊢
  generalize timesF g T = q at htm hqb hbd
  generalize ofKind w h g 0 = L at hth hin hLl hbd
  refine Gives.by rfl rfl (W.seq ?_)
  repeat' first | ((with_reducible apply WR.c_a (f := 80) (fn := Code.f80)); exact rfl; exact rfl; exact rfl; (exact rfl); (focus ((repeat' first | exact args_nil | apply args_d | exact toD_d rfl | exact rfl); done)); exact htm) | ((with_reducible apply WR.c_o (f := 29) (fn := Code.f29)); exact rfl; exact rfl; exact rfl; (exact rfl); (focus ((repeat' first | exact args_nil | apply args_d | exact toD_d rfl | exact rfl); done)); exact hth; (exact rfl)) | ((with_reducible apply WR.mv); exact rfl; exact rfl) | ((with_reducible apply WR.nil)) | (with_reducible refine andThen_n ?_) | (with_reducible refine W.seq ?_) | (with_reducible refine W.region ?_) | (with_reducible refine W.block ?_) | ((with_reducible apply WR.bs0); exact rfl; (exact rfl)) | ((with_reducible apply WR.al); exact rfl; (exact rfl)) | ((with_reducible apply WR.st); exact rfl; exact rfl; exact rfl; exact storeAll (by first | exact List.length_replicate .. | exact grid_len | exact rfl) (by first | exact List.length_replicate .. | exact grid_len | exact rfl))
  (refine (?_ : W _ (Code.loop _) _ _))
  (refine W.loopM [2, 7, 9] [7, 16] [44, 45] (fun zz : (Nat) × (List Cel) => match zz with | (i, out) => (L.length - i : Nat)) (fun zz : (Nat) × (List Cel) => match zz with | (i, out) => (i ≤ L.length ∧ out.length ≤ 100 ∧ out = (L.take i).filter (fun e => decide (q (ix e) > 0) == b) : Prop)) (fun zz : (Nat) × (List Cel) => match zz with | (i, out) => [(8, .a (.sl 14 0 out.length 2)), (10, .a (.d (.s (.int .i64 (i : Nat)))))]) (fun zz : (Nat) × (List Cel) => match zz with | (i, out) => [(14, .flat false (encC out))]) (0, []) (⟨by omega, by simp, by simp⟩) ⟨rfl, rfl, trivial⟩ ⟨rfl, trivial⟩ ⟨np, np, trivial⟩ ?_)
  rintro ⟨i, out⟩ σ hP hN; dsimp only [setL, putL] at hP ⊢; obtain ⟨n44, hN⟩ := hN; obtain ⟨n45, hN⟩ := hN
  obtain ⟨hi, hl, ho⟩ := hP
  by_cases hil : i < L.length
  · have hH := hin _ (gC_mem hil)
    have hst := filter_snoc (p := fun e => decide (q (ix e) > 0) == b) (gC_get hil)
    have hlen : ((L.take (i + 1)).filter fun e => decide (q (ix e) > 0) == b).length ≤ 100 := Nat.le_trans (List.length_filter_le ..) (by rw [List.length_take]; omega)
    rw [← ho] at hst
    cases b
    all_goals
      repeat' first | ((with_reducible apply WR.mv); exact rfl; exact rfl) | ((with_reducible apply WH.mv); exact rfl; exact rfl; exact rfl) | ((with_reducible apply WR.nil)) | (with_reducible refine andThen_n ?_) | (with_reducible refine inB_n ?_) | (with_reducible refine W.seq ?_) | (with_reducible refine W.region ?_) | (with_reducible refine W.skip ?_) | (with_reducible refine W.block ?_) | ((with_reducible apply W.condT); exact rfl) | ((with_reducible apply W.condF); exact rfl) | ((with_reducible apply WH.ld); exact rfl; exact rfl; exact rfl; (first | exact ldC (by first | omega) | exact ldCx (by first | omega) | exact ldCy (by first | omega) | exact ldG (by omega)); exact rfl) | ((with_reducible apply WH.nil)) | (with_reducible refine W.draw ?_) | (intro hb; try (exfalso; omega)) | ((with_reducible apply WR.bs1); exact rfl; exact rfl; (first | assumption)) | ((with_reducible apply WH.isn); exact rfl; exact rfl; exact rfl; omega; exact rfl) | ((with_reducible apply WH.ia); exact rfl; exact rfl; exact rfl; omega; exact rfl) | ((with_reducible apply WH.fa); exact rfl; exact rfl; exact rfl) | ((with_reducible apply WR.lss); exact rfl; exact rfl; exact rfl) | ((with_reducible apply WR.ad); exact rfl; exact rfl; exact rfl; (first | exact i64_in _ (by omega) | assumption)) | ((with_reducible apply WR.isn); exact rfl; exact rfl; exact rfl; omega) | ((with_reducible apply WR.ld); exact rfl; exact rfl; exact rfl; (first | exact ldC (by first | omega) | exact ldCx (by first | omega) | exact ldCy (by first | omega) | exact ldG (by omega))) | ((with_reducible apply WR.le); exact rfl; exact rfl) | ((with_reducible apply WR.apC); exact rfl; exact rfl; exact rfl; exact rfl; omega) | ((with_reducible apply WH.gtr); exact rfl; exact rfl; exact rfl) | ((with_reducible apply WH.ebb); exact rfl; exact rfl; exact rfl)
    all_goals first
      | (rw [if_pos (by first | (rw [decide_eq_true (show q (ix (gC L i)) > 0 by assumption)]; rfl) | (rw [decide_eq_false (show ¬ q (ix (gC L i)) > 0 by assumption)]; rfl))] at hst
         (refine W.nxt (i + 1, out ++ [gC L i]) (by first | omega | (dsimp only; omega)) ?_ ⟨rfl, rfl, trivial⟩ ⟨rfl, trivial⟩ ⟨rfl, rfl, rfl, trivial⟩ ⟨rfl, rfl, trivial⟩ ⟨np, np, trivial⟩); (try dsimp only)
         exact ⟨by omega, by rw [← hst]; exact hlen, hst.symm⟩)
      | (rw [if_neg (by first | (rw [decide_eq_true (show q (ix (gC L i)) > 0 by assumption)]; decide) | (rw [decide_eq_false (show ¬ q (ix (gC L i)) > 0 by assumption)]; decide)), List.append_nil] at hst
         (refine W.nxt (i + 1, out) (by first | omega | (dsimp only; omega)) ?_ ⟨rfl, rfl, trivial⟩ ⟨rfl, trivial⟩ ⟨rfl, rfl, rfl, trivial⟩ ⟨rfl, rfl, trivial⟩ ⟨np, np, trivial⟩); (try dsimp only)
         exact ⟨by omega, by omega, hst.symm⟩)
  · rw [show L.take i = L from List.take_of_length_le (by omega)] at ho
    repeat' first | ((with_reducible apply WR.mv); exact rfl; exact rfl) | ((with_reducible apply WR.nil)) | (with_reducible refine andThen_n ?_) | (with_reducible refine andThen_x ?_) | (with_reducible refine inB_x ?_) | (with_reducible refine W.seq ?_) | (with_reducible refine W.region ?_) | (with_reducible refine W.ret ?_) | (with_reducible refine W.exit ?_) | ((with_reducible apply W.condF); exact rfl) | ((with_reducible apply Done.f); (intro hh hh2; exact (nomatch hh2)); (focus ((repeat' first | exact all_nil | apply all_cons | exact res_tmp rfl); done)); (focus ((repeat' first | exact all_nil | apply all_cons | exact retOf_o rfl rfl (by first | exact encC_length _)); done)); exact rfl; (focus ((repeat' first | exact outs_nil | apply outs_d); done))) | (intro hb; try (exfalso; omega)) | ((with_reducible apply WR.lss); exact rfl; exact rfl; exact rfl) | ((with_reducible apply WR.le); exact rfl; exact rfl)
    rw [hbd, ho]; rfl
theorem trk_has {c : Cel} {s : List UInt8} (hO : OpnW w h g c s) : ∀ e ∈ trk s c s.length, Has w h e.1 e.2 := fun e he => by
  obtain ⟨j, h1, rfl⟩ := trk_mem he
  exact (hO j (by omega)).1
theorem timesF_pos : ∀ (T : List Cel) (q : Nat → Int), (∀ k, 0 ≤ q k) → ∀ k, (T.foldl (fun q e => if g (ix e) = 0 then gset q (ix e) (q (ix e) + 1) else q) q k > 0 ↔ q k > 0 ∨ ∃ e ∈ T, g (ix e) = 0 ∧ ix e = k)
  | [], q, hq, k => by simp
  | e :: r, q, hq, k => by
    rw [List.foldl_cons]
    have hq2 : ∀ k, 0 ≤ (if g (ix e) = 0 then gset q (ix e) (q (ix e) + 1) else q) k := fun k => by
      have h1 := hq k
      split
      · simp only [gset]
        split
        · have h2 := hq (ix e); omega
        · omega
      · omega
    rw [timesF_pos r _ hq2 k]
    have h3 := hq k
    have hk : (if g (ix e) = 0 then gset q (ix e) (q (ix e) + 1) else q) k > 0 ↔ q k > 0 ∨ (g (ix e) = 0 ∧ ix e = k) := by
      by_cases h1 : g (ix e) = 0
      · rw [if_pos h1]
        simp only [gset]
        by_cases h2 : k = ix e
        · rw [if_pos h2]
          have h4 := hq (ix e)
          constructor
          · intro _; exact .inr ⟨h1, h2.symm⟩
          · intro _; omega
        · rw [if_neg h2]
          exact ⟨fun h => .inl h, fun h => h.elim id fun h => absurd h.2.symm h2⟩
      · rw [if_neg h1]
        exact ⟨fun h => .inl h, fun h => h.elim id fun h => absurd h.1 h1⟩
    rw [hk]
    simp only [List.mem_cons, or_and_right, exists_or, exists_eq_left, or_assoc]
theorem left_mown (hs : w ≤ 10 ∧ h ≤ 10) {T : List Cel} (hT : ∀ e ∈ T, Has w h e.1 e.2) : leftL w h g T = mownL w h g T false := by
  unfold leftL mownL those ofKind
  rw [List.filter_filter]
  apply List.filter_congr
  intro e he
  have hh := allC_mem he
  have hp := timesF_pos (g := g) T (fun _ => 0) (fun _ => by simp) (ix e)
  by_cases h1 : g (ix e) = 0
  · have h2 : Is w h g 0 e.1 e.2 := ⟨hh, h1⟩
    have h3 : timesF g T (ix e) > 0 ↔ e ∈ T := by
      unfold timesF
      rw [hp]
      constructor
      · rintro (h4 | ⟨a, h4, h5, h6⟩)
        · simp at h4
        · rw [← ix_inj hs (hT a h4) hh h6]; exact h4
      · intro h4; exact .inr ⟨e, h4, h1, rfl⟩
    by_cases h4 : e ∈ T
    · simp [h2, h1, h4, h3.2 h4]
    · have h5 : ¬ timesF g T (ix e) > 0 := fun h => h4 (h3.1 h)
      simp [h2, h1, h4, h5]
  · have h2 : ¬ Is w h g 0 e.1 e.2 := fun h => h1 h.2
    simp [h2, h1]
end Go.DM
