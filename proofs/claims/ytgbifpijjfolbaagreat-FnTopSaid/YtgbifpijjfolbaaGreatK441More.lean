/- Lawns: what the small functions of both sides give. -/
import Derived.Test.YtgbifpijjfolbaaGreatK441Code
import Derived.Test.YtgbifpijjfolbaaGreatK441Y
set_option linter.all false
namespace Go.DM
variable [Tok]
open Go.IntWalk
theorem within_gives (a b c : Int) : Gives G 56 [ai .i64 a, ai .i64 b, ai .i64 c] (rb (decide (b ≤ a ∧ a ≤ c))) := by
  refine Gives.by rfl rfl (W.seq ?_)
  repeat' first | ((with_reducible first | apply WR.mv | apply WR.pk); exact rfl; exact rfl) | (with_reducible first | apply WR.nil | refine andThen_n ?_ | refine W.seq ?_ | refine W.region ?_ | refine W.ret ?_) | ((with_reducible apply Done.r); exact rfl) | (intro hb; try (exfalso; omega)) | ((with_reducible apply WR.leq); iterate 3 exact rfl) | ((with_reducible apply WR.off); exact rfl)
  all_goals first | rfl | exact rb_t (by first | assumption | omega | (simp only [Is] at *; omega)) | exact rb_f (by first | assumption | omega | (simp only [Is] at *; omega))
theorem l00In_gives (a b c : Int) : Gives G 92 [ai .i64 a, ai .i64 b, ai .i64 c] (rb (decide (b ≤ a ∧ a ≤ c))) := by
  refine Gives.by rfl rfl (W.seq ?_)
  repeat' first | ((with_reducible first | apply WR.mv | apply WR.pk); exact rfl; exact rfl) | (with_reducible first | apply WR.nil | refine andThen_n ?_ | refine W.seq ?_ | refine W.region ?_ | refine W.ret ?_) | ((with_reducible apply Done.r); exact rfl) | (intro hb; try (exfalso; omega)) | ((with_reducible apply WR.off); exact rfl) | ((with_reducible first | apply WR.leq | apply WR.geq); iterate 3 exact rfl)
  all_goals first | rfl | exact rb_t (by first | assumption | omega | (simp only [Is] at *; omega)) | exact rb_f (by first | assumption | omega | (simp only [Is] at *; omega))
variable {w h : Int} {g : Nat → Int} {cs : List S}
theorem has_gives (l : IsLawn w h g cs) (x y : Int) : Gives G 62 [aa cs, ac x y] (rb (decide (0 ≤ x ∧ x < w ∧ 0 ≤ y ∧ y < h))) := by
  refine Gives.by rfl rfl (W.seq ?_)
  repeat' first | ((with_reducible apply WR.off); exact rfl) | ((with_reducible apply WR.ld); (iterate 3 exact rfl); (first | exact lawn_w (by assumption) | exact lawn_h (by assumption))) | ((with_reducible first | apply WR.lx | apply WR.fa | apply WR.mv | apply WR.pk); exact rfl; exact rfl) | (with_reducible first | apply WR.nil | refine andThen_n ?_ | refine W.seq ?_ | refine W.region ?_ | refine W.ret ?_) | ((with_reducible apply Done.r); exact rfl) | (intro hb; try (exfalso; omega)) | ((with_reducible first | apply WR.lss | apply WR.geq); iterate 3 exact rfl) | ((with_reducible apply WR.bx); exact rfl; exact rfl; exact IsLawn.len (by assumption); exact rfl) | ((with_reducible apply WR.bo); exact rfl; exact rfl; exact rfl)
  all_goals first | rfl | exact rb_t (by first | assumption | omega | (simp only [Is] at *; omega)) | exact rb_f (by first | assumption | omega | (simp only [Is] at *; omega))
theorem kind_gives (l : IsLawn w h g cs) (x y : Int) (hb : 0 ≤ x ∧ x < 10 ∧ 0 ≤ y ∧ y < 10) : Gives G 100 [aa cs, ac x y] (ri .i64 (g (10 * y.toNat + x.toNat))) := by
  refine Gives.by rfl rfl (W.seq ?_)
  repeat' first | (with_reducible first | apply WR.nil | refine andThen_n ?_ | refine W.seq ?_ | refine W.region ?_ | refine W.ret ?_ | apply WH.nil | refine W.draw ?_) | ((with_reducible apply Done.r); exact rfl) | ((with_reducible apply WH.ld); (iterate 3 exact rfl); (exact lawn_c (by assumption) (by omega)); exact rfl) | ((with_reducible first | apply WH.lx | apply WH.fa | apply WH.mv); iterate 3 exact rfl) | ((with_reducible apply WR.bx); exact rfl; exact rfl; exact IsLawn.len (by assumption); exact rfl) | ((with_reducible apply WR.bo); exact rfl; exact rfl; exact rfl) | ((with_reducible apply WH.ia); (iterate 3 exact rfl); omega; exact rfl) | ((with_reducible apply WR.mv); exact rfl; exact rfl) | ((with_reducible apply WH.cv); exact rfl; exact rfl; (exact lawn_wrap (by assumption) (by omega)))
  all_goals first | rfl | exact rb_t (by first | assumption | omega | (simp only [Is] at *; omega)) | exact rb_f (by first | assumption | omega | (simp only [Is] at *; omega))
theorem is_gives (l : IsLawn w h g cs) (k x y : Int) (hs : (w ≤ 10 ∧ h ≤ 10) ∨ (x < 10 ∧ y < 10)) : Gives G 65 [aa cs, ac x y, ai .i64 k] (rb (decide (Is w h g k x y))) := by
  refine Gives.by rfl rfl (W.seq ?_)
  repeat' first | ((with_reducible apply WR.cp); (iterate 4 exact rfl); exact has_gives (by assumption) _ _; exact rfl) | ((with_reducible apply WR.cs); (iterate 4 exact rfl); exact kind_gives (by assumption) _ _ (by omega); exact rfl) | ((with_reducible first | apply WR.mv | apply WR.lx | apply WR.pk); exact rfl; exact rfl) | ((with_reducible apply WR.ld); (iterate 3 exact rfl); (exact loadC_all (IsLawn.len (by assumption)))) | (with_reducible first | apply WR.nil | refine andThen_n ?_ | refine W.seq ?_ | refine W.region ?_ | refine W.ret ?_) | ((with_reducible apply Done.r); exact rfl) | (intro hb; try (exfalso; omega)) | ((with_reducible apply WR.off); exact rfl) | ((with_reducible apply WR.bx); exact rfl; exact rfl; exact IsLawn.len (by assumption); exact rfl) | ((with_reducible apply WR.bo); exact rfl; exact rfl; exact rfl) | ((with_reducible apply WR.eql); iterate 3 exact rfl)
  all_goals first | rfl | exact rb_t (by first | assumption | omega | (simp only [Is] at *; omega)) | exact rb_f (by first | assumption | omega | (simp only [Is] at *; omega))
theorem grass_gives (l : IsLawn w h g cs) (x y : Int) (hs : (w ≤ 10 ∧ h ≤ 10) ∨ (x < 10 ∧ y < 10)) : Gives G 32 [aa cs, ac x y] (rb (decide (Is w h g 0 x y))) := by
  refine Gives.by rfl rfl (W.seq ?_)
  repeat' first | ((with_reducible apply WR.cp); (iterate 4 exact rfl); exact is_gives (by assumption) _ _ _ (by omega); exact rfl) | (with_reducible first | apply WR.nil | refine andThen_n ?_ | refine W.seq ?_ | refine W.region ?_ | refine W.ret ?_) | ((with_reducible apply Done.r); exact rfl) | (intro hb; try (exfalso; omega)) | ((with_reducible first | apply WR.mv | apply WR.lx); exact rfl; exact rfl) | ((with_reducible apply WR.bx); exact rfl; exact rfl; exact IsLawn.len (by assumption); exact rfl) | ((with_reducible apply WR.bo); exact rfl; exact rfl; exact rfl) | ((with_reducible apply WR.ld); (iterate 3 exact rfl); (exact loadC_all (IsLawn.len (by assumption))))
  all_goals first | rfl | exact rb_t (by first | assumption | omega | (simp only [Is] at *; omega)) | exact rb_f (by first | assumption | omega | (simp only [Is] at *; omega))
theorem l01Is_gives (l : IsLawn w h g cs) (x y : Int) (hx : -128 ≤ x ∧ x ≤ 127 ∧ -128 ≤ y ∧ y ≤ 127) : Gives G 50 [ar cs, ac x y] (rb (decide (0 ≤ x ∧ x < w ∧ 0 ≤ y ∧ y < h))) := by
  have := l.wb
  have := l.hb
  refine Gives.by rfl rfl (W.seq ?_)
  repeat' first | ((with_reducible apply WH.cp); (iterate 4 exact rfl); exact l00In_gives _ _ _; exact rfl) | ((with_reducible apply WH.off); exact rfl) | ((with_reducible first | apply WH.mv | apply WH.lx | apply WH.fa | apply WH.nc | apply WH.pk); iterate 3 exact rfl) | ((with_reducible apply WH.cv); exact rfl; exact rfl; (exact i64_in _ (by omega))) | ((with_reducible apply WH.ldd); exact rfl; exact rfl; (first | exact lawn_w (by assumption) | exact lawn_h (by assumption)); exact rfl) | (with_reducible first | apply WR.nil | refine andThen_n ?_ | refine W.seq ?_ | refine W.region ?_ | refine W.ret ?_ | apply WH.nil | refine W.draw ?_) | ((with_reducible apply Done.r); exact rfl) | (intro hb; try (exfalso; omega)) | ((with_reducible apply WH.sb); (iterate 3 exact rfl); (exact i64_in _ (by omega))) | ((with_reducible apply WR.mv); exact rfl; exact rfl) | ((with_reducible apply WR.bo); exact rfl; exact rfl; exact rfl)
  all_goals first | rfl | exact rb_t (by first | assumption | omega | (simp only [Is] at *; omega)) | exact rb_f (by first | assumption | omega | (simp only [Is] at *; omega))
theorem l01At_gives (l : IsLawn w h g cs) (x y : Int) (hb : 0 ≤ x ∧ x < 10 ∧ 0 ≤ y ∧ y < 10) : Gives G 61 [ar cs, ac x y] (ri .i64 (g (10 * y.toNat + x.toNat))) := by
  refine Gives.by rfl rfl (W.seq ?_)
  repeat' first | (with_reducible first | apply WR.nil | refine andThen_n ?_ | refine W.seq ?_ | refine W.region ?_ | refine W.ret ?_ | apply WH.nil | refine W.draw ?_) | ((with_reducible apply Done.r); exact rfl) | ((with_reducible apply WH.ldd); exact rfl; exact rfl; (exact lawn_c (by assumption) (by omega)); exact rfl) | ((with_reducible first | apply WH.lx | apply WH.fa | apply WH.mv | apply WH.nc); iterate 3 exact rfl) | ((with_reducible apply WH.iad); (iterate 3 exact rfl); omega; exact rfl) | ((with_reducible apply WR.mv); exact rfl; exact rfl) | ((with_reducible apply WR.bo); exact rfl; exact rfl; exact rfl) | ((with_reducible apply WH.cv); exact rfl; exact rfl; (exact lawn_wrap (by assumption) (by omega)))
  all_goals first | rfl | exact rb_t (by first | assumption | omega | (simp only [Is] at *; omega)) | exact rb_f (by first | assumption | omega | (simp only [Is] at *; omega))
theorem l01Grass_gives (l : IsLawn w h g cs) (x y : Int) (hs : (w ≤ 10 ∧ h ≤ 10) ∨ (x < 10 ∧ y < 10)) (hx : -128 ≤ x ∧ x ≤ 127 ∧ -128 ≤ y ∧ y ≤ 127) : Gives G 51 [ar cs, ac x y] (rb (decide (Is w h g 0 x y))) := by
  refine Gives.by rfl rfl (W.seq ?_)
  repeat' first | ((with_reducible apply WR.cp); (iterate 4 exact rfl); exact l01Is_gives (by assumption) _ _ (by omega); exact rfl) | ((with_reducible apply WR.cs); (iterate 4 exact rfl); exact l01At_gives (by assumption) _ _ (by omega); exact rfl) | ((with_reducible first | apply WR.mv | apply WR.lx | apply WR.pk); exact rfl; exact rfl) | (with_reducible first | apply WR.nil | refine andThen_n ?_ | refine W.seq ?_ | refine W.region ?_ | refine W.ret ?_) | ((with_reducible apply Done.r); exact rfl) | (intro hb; try (exfalso; omega)) | ((with_reducible apply WR.off); exact rfl) | ((with_reducible apply WR.eql); iterate 3 exact rfl) | ((with_reducible apply WR.bo); exact rfl; exact rfl; exact rfl)
  all_goals first | rfl | exact rb_t (by first | assumption | omega | (simp only [Is] at *; omega)) | exact rb_f (by first | assumption | omega | (simp only [Is] at *; omega))
theorem l01Side_gives (n : Int) : Gives G 58 [ai .i64 n] (rb (decide (1 ≤ n ∧ n ≤ 10))) := by
  refine Gives.by rfl rfl (W.seq ?_)
  repeat' first | ((with_reducible apply WR.cp); (iterate 4 exact rfl); exact l00In_gives _ _ _; exact rfl) | ((with_reducible apply WR.mv); exact rfl; exact rfl) | (with_reducible first | apply WR.nil | refine andThen_n ?_ | refine W.seq ?_ | refine W.region ?_ | refine W.ret ?_) | ((with_reducible apply Done.r); exact rfl) | (intro hb; try (exfalso; omega))
  all_goals first | rfl | exact rb_t (by first | assumption | omega | (simp only [Is] at *; omega)) | exact rb_f (by first | assumption | omega | (simp only [Is] at *; omega))
theorem l01Kind_gives (n : Int) : Gives G 59 [ai .i64 n] (rb (decide (0 ≤ n ∧ n ≤ 3))) := by
  refine Gives.by rfl rfl (W.seq ?_)
  repeat' first | ((with_reducible apply WR.cp); (iterate 4 exact rfl); exact l00In_gives _ _ _; exact rfl) | ((with_reducible apply WR.mv); exact rfl; exact rfl) | (with_reducible first | apply WR.nil | refine andThen_n ?_ | refine W.seq ?_ | refine W.region ?_ | refine W.ret ?_) | ((with_reducible apply Done.r); exact rfl) | (intro hb; try (exfalso; omega))
  all_goals first | rfl | exact rb_t (by first | assumption | omega | (simp only [Is] at *; omega)) | exact rb_f (by first | assumption | omega | (simp only [Is] at *; omega))
end Go.DM

/- Valid lawns: both sides. -/
namespace Go.DM
variable [Tok]
open Go.IntWalk
variable {w h : Int} {g : Nat → Int} {cs : List S}
theorem validLawn_gives (l : IsLawn w h g cs) : Gives G 30 [aa cs] (rb (decide (LawnOk w h g))) := by
  refine Gives.by rfl rfl (W.seq ?_)
  repeat' first | ((with_reducible apply WR.cp); (iterate 4 exact rfl); exact within_gives _ _ _; exact rfl) | ((with_reducible first | apply WR.mv | apply WR.un | apply WR.pk | apply WR.fa); exact rfl; exact rfl) | ((with_reducible apply WR.off); exact rfl) | ((with_reducible apply WR.ld); (iterate 3 exact rfl); (first | exact lawn_w (by assumption) | exact lawn_h (by assumption))) | (with_reducible first | apply WR.nil | refine andThen_n ?_ | refine andThen_r ?_ | refine W.seq ?_ | refine W.region ?_ | refine W.skip ?_ | refine W.ret ?_ | refine W.block ?_) | ((with_reducible apply W.condT); exact rfl) | ((with_reducible apply W.condF); exact rfl) | ((with_reducible apply Done.r); exact rfl) | (intro hb; try (exfalso; omega)) | ((with_reducible apply WR.cv); exact rfl; exact rfl; (first | exact lawn_ww (by assumption) | exact lawn_hw (by assumption))) | ((with_reducible apply WR.bx); exact rfl; exact rfl; exact IsLawn.len (by assumption); exact rfl)
  all_goals first | exact rb_f (by simp only [LawnOk]; omega) | skip
  refine W.loopI (fun n σ => ∃ y : Int, n = (10 - y).toNat ∧ 0 ≤ y ∧ y ≤ 10 ∧ (∀ k, k < 10 * y.toNat → cellOk w h g k) ∧ σ.env 18 = .a (.d (.s (.int .i8 y))) ∧ σ.env 1 = .a (.ptr 1 0) ∧ σ.objs 1 = some (.flat false cs)) ?_ 10 _ ⟨0, rfl, by omega, by omega, fun k hk => by omega, rfl, rfl, rfl⟩
  rintro n σ ⟨y, rfl, y0, y1, hok, e18, e1, o1⟩
  rw [← set_self e18, ← set_self e1, ← put_self o1]
  repeat' first | ((with_reducible apply WR.mv); exact rfl; exact rfl) | (with_reducible first | apply WR.nil | refine andThen_n ?_ | refine andThen_x ?_ | refine inB_x ?_ | refine W.seq ?_ | refine W.region ?_ | refine W.skip ?_ | refine W.ret ?_ | refine W.exit ?_ | refine W.block ?_) | ((with_reducible apply W.condT); exact rfl) | ((with_reducible apply W.condF); exact rfl) | ((with_reducible apply Done.r); exact rfl) | (intro hb; try (exfalso; omega)) | ((with_reducible apply WR.lss); iterate 3 exact rfl)
  · refine W.loopI (fun n σ => ∃ x : Int, n = (10 - x).toNat ∧ 0 ≤ x ∧ x ≤ 10 ∧ (∀ k, k < 10 * y.toNat + x.toNat → cellOk w h g k) ∧ σ.env 21 = .a (.d (.s (.int .i8 x))) ∧ σ.env 18 = .a (.d (.s (.int .i8 y))) ∧ σ.env 3 = .a (.d (.s (.int .i8 y))) ∧ σ.env 1 = .a (.ptr 1 0) ∧ σ.objs 1 = some (.flat false cs))
      ?_ 10 _ ⟨0, rfl, by omega, by omega, by simpa using hok, rfl, rfl, rfl, rfl, rfl⟩
    clear hok e18 e1 o1
    rintro n σ ⟨x, rfl, x0, x1, hok, e21, e18, e3, e1, o1⟩
    rw [← set_self e21, ← set_self e18, ← set_self e3, ← set_self e1, ← put_self o1]
    repeat' first | ((with_reducible apply WR.cp); (iterate 4 exact rfl); exact has_gives (by assumption) _ _; exact rfl) | ((with_reducible first | apply WR.mv | apply WR.un | apply WR.pk | apply WR.fa | apply WR.bu); exact rfl; exact rfl) | ((with_reducible apply WR.off); exact rfl) | ((with_reducible apply WR.ld); (iterate 3 exact rfl); (first | exact lawn_c (by assumption) (by omega) | exact loadC_all (IsLawn.len (by assumption)))) | (with_reducible first | apply WR.nil | refine andThen_n ?_ | refine andThen_x ?_ | refine andThen_r ?_ | refine inB_n ?_ | refine inB_r ?_ | refine inB_x ?_ | refine W.seq ?_ | refine W.region ?_ | refine W.skip ?_ | refine W.ret ?_ | refine W.exit ?_ | refine W.block ?_) | ((with_reducible apply W.condT); exact rfl) | ((with_reducible apply W.condF); exact rfl) | ((with_reducible apply Done.r); exact rfl) | (intro hb; try (exfalso; omega)) | ((with_reducible first | apply WR.lss | apply WR.gtr | apply WR.neq); iterate 3 exact rfl) | ((with_reducible apply WR.ad); (iterate 3 exact rfl); (exact i8_in _ (by omega))) | ((with_reducible apply WR.ia); (iterate 3 exact rfl); omega)
    all_goals first
      | exact rb_f (fun hl => by have := hl.2.2 (10 * y.toNat + x.toNat) (by omega); simp only [cellOk] at this; omega)
      | exact ⟨_, by omega, x + 1, rfl, by omega, by omega, upTo1 x0 hok (by simp only [cellOk]; omega), rfl, rfl, rfl, rfl, rfl⟩
      | exact ⟨_, by omega, y + 1, rfl, by omega, by omega, upTo2 y0 (by omega) hok, rfl, rfl, rfl⟩
      | skip
  · exact rb_t ⟨by omega, by omega, fun k hk => hok k (by omega)⟩
theorem l01Ok_gives (l : IsLawn w h g cs) : Gives G 28 [ar cs] (rb (decide (LawnOk w h g))) := by
  refine Gives.by rfl rfl (W.seq ?_)
  repeat' first | ((with_reducible apply WR.cp); (iterate 4 exact rfl); exact l01Side_gives _; exact rfl) | ((with_reducible first | apply WR.mv | apply WR.un | apply WR.pk | apply WR.fa | apply WR.nc); exact rfl; exact rfl) | ((with_reducible apply WR.off); exact rfl) | ((with_reducible apply WR.cv); exact rfl; exact rfl; (first | exact lawn_ww (by assumption) | exact lawn_hw (by assumption))) | ((with_reducible apply WR.ldd); exact rfl; exact rfl; (first | exact lawn_w (by assumption) | exact lawn_h (by assumption))) | (with_reducible first | apply WR.nil | refine andThen_n ?_ | refine andThen_r ?_ | refine W.seq ?_ | refine W.region ?_ | refine W.skip ?_ | refine W.ret ?_ | refine W.block ?_) | ((with_reducible apply W.condT); exact rfl) | ((with_reducible apply W.condF); exact rfl) | ((with_reducible apply Done.r); exact rfl) | (intro hb; try (exfalso; omega))
  all_goals first | exact rb_f (by simp only [LawnOk]; omega) | skip
  refine W.loopI (fun n σ => ∃ y : Int, n = (10 - y).toNat ∧ 0 ≤ y ∧ y ≤ 10 ∧ (∀ k, k < 10 * y.toNat → cellOk w h g k) ∧ σ.env 3 = .a (.d (.s (.int .i8 y))) ∧ σ.env 0 = .a (.d (.ref cs))) ?_ 10 _ ⟨0, rfl, by omega, by omega, fun k hk => by omega, rfl, rfl⟩
  rintro n σ ⟨y, rfl, y0, y1, hok, e3, e0⟩
  rw [← set_self e3, ← set_self e0]
  repeat' first | ((with_reducible apply WR.mv); exact rfl; exact rfl) | (with_reducible first | apply WR.nil | refine andThen_n ?_ | refine andThen_x ?_ | refine inB_x ?_ | refine W.seq ?_ | refine W.region ?_ | refine W.skip ?_ | refine W.ret ?_ | refine W.exit ?_ | refine W.block ?_) | ((with_reducible apply W.condT); exact rfl) | ((with_reducible apply W.condF); exact rfl) | ((with_reducible apply Done.r); exact rfl) | (intro hb; try (exfalso; omega)) | ((with_reducible apply WR.lss); iterate 3 exact rfl)
  · refine W.loopI (fun n σ => ∃ x : Int, n = (10 - x).toNat ∧ 0 ≤ x ∧ x ≤ 10 ∧ (∀ k, k < 10 * y.toNat + x.toNat → cellOk w h g k) ∧ σ.env 4 = .a (.d (.s (.int .i8 x))) ∧ σ.env 3 = .a (.d (.s (.int .i8 y))) ∧ σ.env 0 = .a (.d (.ref cs)))
      ?_ 10 _ ⟨0, rfl, by omega, by omega, by simpa using hok, rfl, rfl, rfl⟩
    clear hok e3 e0
    rintro n σ ⟨x, rfl, x0, x1, hok, e4, e3, e0⟩
    rw [← set_self e4, ← set_self e3, ← set_self e0]
    repeat' first | ((with_reducible apply WR.cp); (iterate 4 exact rfl); exact l01Kind_gives _; exact rfl) | ((with_reducible apply WR.cp); (iterate 4 exact rfl); exact l01Is_gives (by assumption) _ _ (by omega); exact rfl) | ((with_reducible first | apply WR.mv | apply WR.un | apply WR.pk | apply WR.fa | apply WR.nc | apply WR.bu); exact rfl; exact rfl) | ((with_reducible apply WR.off); exact rfl) | ((with_reducible apply WR.cv); exact rfl; exact rfl; (first | exact i8_in _ (by omega) | exact lawn_wrap (by assumption) (by omega))) | ((with_reducible apply WR.ldd); exact rfl; exact rfl; (exact lawn_c (by assumption) (by omega))) | (with_reducible first | apply WR.nil | refine andThen_n ?_ | refine andThen_x ?_ | refine andThen_r ?_ | refine inB_n ?_ | refine inB_r ?_ | refine inB_x ?_ | refine W.seq ?_ | refine W.region ?_ | refine W.skip ?_ | refine W.ret ?_ | refine W.exit ?_ | refine W.block ?_) | ((with_reducible apply W.condT); exact rfl) | ((with_reducible apply W.condF); exact rfl) | ((with_reducible apply Done.r); exact rfl) | (intro hb; try (exfalso; omega)) | ((with_reducible first | apply WR.lss | apply WR.neq); iterate 3 exact rfl) | ((with_reducible apply WR.ad); (iterate 3 exact rfl); (first | exact i8_in _ (by omega) | exact lawn_wrap (by assumption) (by omega))) | ((with_reducible apply WR.iad); (iterate 3 exact rfl); omega)
    all_goals have hcb := fun (h : 10 * y.toNat + x.toNat < 100) => l.cb _ h
    all_goals first
      | exact rb_f (fun hl => by have := hl.2.2 (10 * y.toNat + x.toNat) (by omega); simp only [cellOk] at this; have := hcb (by omega); omega)
      | exact ⟨_, by omega, x + 1, rfl, by omega, by omega, upTo1 x0 hok (by simp only [cellOk]; omega), rfl, rfl, rfl⟩
      | exact ⟨_, by omega, y + 1, rfl, by omega, by omega, upTo2 y0 (by omega) hok, rfl, rfl⟩
  · exact rb_t ⟨by omega, by omega, fun k hk => hok k (by omega)⟩
variable {q : Nat → Int} {qs : List S}
end Go.DM

/- Moles: what the functions of both sides give. -/
namespace Go.DM
variable [Tok]
open Go.IntWalk
variable {w h : Int} {g : Nat → Int} {cs : List S} {q : Nat → Int} {qs : List S}
theorem indexFunc_gives {f : Nat} {fn : Fn} {z : D} (P : Cel → Prop) [DecidablePred P] (l : List Cel) (hl : l.length ≤ 1000) (hf : G f = some fn) (hm : fn.muts = []) (hP : ∀ c ∈ l, Gives G f [ac c.1 c.2, .d z] (rb (decide (P c)))) :
    Gives G 99 [asl l, .d (.clo f [] [z])] (ri .i64 (idxOf P l 0)) := by
  refine Gives.by rfl rfl (W.seq ?_)
  repeat' first | ((with_reducible first | apply WR.mv | apply WR.le); exact rfl; exact rfl) | (with_reducible first | apply WR.nil | refine andThen_n ?_ | refine W.seq ?_ | refine W.region ?_ | refine W.block ?_)
  refine W.loopI (fun n σ => ∃ i : Int, n = (l.length - i).toNat ∧ 0 ≤ i ∧ i ≤ l.length ∧ idxOf P l 0 = idxOf P (l.drop i.toNat) i ∧ σ.env 8 = .a (.d (.s (.int .i64 i))) ∧ σ.env 7 = .a (.d (.s (.int .i64 (l.length : Nat)))) ∧ σ.env 0 = .a (.d (.sl l.length 2 (encC l))) ∧ σ.env 1 = .a (.d (.clo f [] [z])))
    ?_ _ _ ⟨0, rfl, by omega, by omega, rfl, rfl, rfl, rfl, rfl⟩
  rintro n σ ⟨i, rfl, i0, i1, hi, e8, e7, e0, e1⟩
  rw [← set_self e8, ← set_self e7, ← set_self e0, ← set_self e1]
  repeat' first | ((with_reducible apply WR.mv); exact rfl; exact rfl) | (with_reducible first | apply WR.nil | refine andThen_n ?_ | refine andThen_x ?_ | refine inB_x ?_ | refine W.seq ?_ | refine W.region ?_ | refine W.skip ?_ | refine W.ret ?_ | refine W.exit ?_ | refine W.block ?_) | ((with_reducible apply W.condT); exact rfl) | ((with_reducible apply W.condF); exact rfl) | ((with_reducible apply Done.r); exact rfl) | (intro hb; try (exfalso; omega)) | ((with_reducible apply WR.lss); iterate 3 exact rfl)
  · obtain ⟨c, hc⟩ := get_of_lt i0 (by assumption)
    have hmem : c ∈ l := List.mem_of_getElem? hc
    (with_reducible apply WR.id); (iterate 3 exact rfl); exact ⟨i0, by assumption⟩; exact Nat.le_of_eq (encC_length l).symm
    (with_reducible apply WR.ldd); exact rfl; exact rfl; exact encC_load l _ c hc
    (with_reducible apply WR.vp); exact rfl; exact rfl; exact hf; exact hm; exact rfl; exact hP c hmem
    all_goals repeat' first | ((with_reducible apply WR.mv); exact rfl; exact rfl) | ((with_reducible apply WR.nil)) | (with_reducible refine andThen_n ?_) | (with_reducible refine andThen_r ?_) | (with_reducible refine inB_n ?_) | (with_reducible refine inB_r ?_) | (with_reducible refine W.seq ?_) | (with_reducible refine W.region ?_) | (with_reducible refine W.skip ?_) | (with_reducible refine W.ret ?_) | ((with_reducible apply W.condT); exact rfl) | ((with_reducible apply W.condF); exact rfl) | ((with_reducible apply Done.r); exact rfl) | (intro hb; try (exfalso; omega)) | ((with_reducible apply WR.ad); (iterate 3 exact rfl); (exact i64_in _ (by omega)))
    all_goals first
      | (rw [hi, idxOf_step P i0 hc, if_pos (by assumption)]; rfl)
      | exact ⟨_, by omega, i + 1, rfl, by omega, by omega, by rw [hi, idxOf_step P i0 hc, if_neg (by assumption)], rfl, rfl, rfl, rfl⟩
  · have : l.drop i.toNat = [] := List.drop_eq_nil_of_le (by omega)
    rw [hi, this]; rfl
theorem containsFunc_gives {f : Nat} {fn : Fn} {z : D} (P : Cel → Prop) [DecidablePred P] (l : List Cel) (hl : l.length ≤ 1000) (hf : G f = some fn) (hm : fn.muts = []) (hP : ∀ c ∈ l, Gives G f [ac c.1 c.2, .d z] (rb (decide (P c)))) :
    Gives G 75 [asl l, .d (.clo f [] [z])] (rb (decide (∃ c ∈ l, P c))) := by
  refine Gives.by rfl rfl (W.seq ?_)
  repeat' first | ((with_reducible apply WR.cs); (iterate 4 exact rfl); exact indexFunc_gives P l hl hf hm hP; exact rfl) | ((with_reducible apply WR.mv); exact rfl; exact rfl) | (with_reducible first | apply WR.nil | refine andThen_n ?_ | refine W.seq ?_ | refine W.region ?_ | refine W.ret ?_) | ((with_reducible apply Done.r); exact rfl) | (intro hb; try (exfalso; omega)) | ((with_reducible apply WR.geq); iterate 3 exact rfl)
  · exact rb_t ((idxOf_nonneg P l 0 (by omega)).1 (by assumption))
  · exact rb_f (fun h => absurd ((idxOf_nonneg P l 0 (by omega)).2 h) (by assumption))
theorem hasNot_gives (l : IsLawn w h g cs) (x y : Int) : Gives G 106 [ac x y, ar cs] (rb (decide (¬ Has w h x y))) := by
  refine Gives.by rfl rfl (W.seq ?_)
  repeat' first | ((with_reducible apply WR.cp); (iterate 4 exact rfl); exact has_gives (by assumption) _ _; exact rfl) | (with_reducible first | apply WR.nil | refine andThen_n ?_ | refine W.seq ?_ | refine W.region ?_ | refine W.ret ?_) | ((with_reducible apply Done.r); exact rfl) | (intro hb; try (exfalso; omega)) | ((with_reducible first | apply WR.mv | apply WR.lx | apply WR.un); exact rfl; exact rfl) | ((with_reducible apply WR.ldr); exact rfl; exact rfl; (exact loadC_all (IsLawn.len (by assumption)))) | ((with_reducible apply WR.bo); exact rfl; exact rfl; exact rfl)
  · exact rb_f (fun h => h (by assumption))
  · exact rb_t (by assumption)
theorem cellsCode_gives (l : IsLawn w h g cs) (ls : List Cel) (hl : ls.length ≤ 1000) : Gives G 74 [aa cs, asl ls] (ri .i64 (belowCode (LawnOk w h g) (∀ c ∈ ls, Has w h c.1 c.2) True)) := by
  refine Gives.by rfl rfl (W.seq ?_)
  repeat' first | ((with_reducible apply WR.cp); (iterate 4 exact rfl); exact validLawn_gives (by assumption); exact rfl) | ((with_reducible apply WR.cp); (iterate 4 exact rfl); exact containsFunc_gives (fun c => ¬ Has w h c.1 c.2) ls hl rfl rfl (fun c _ => hasNot_gives l _ _); exact rfl) | ((with_reducible first | apply WR.mv | apply WR.mf | apply WR.un); exact rfl; exact rfl) | (with_reducible first | apply WR.nil | refine andThen_n ?_ | refine andThen_r ?_ | refine inB_n ?_ | refine inB_r ?_ | refine W.seq ?_ | refine W.region ?_ | refine W.skip ?_ | refine W.ret ?_ | refine W.block ?_) | ((with_reducible apply W.condT); exact rfl) | ((with_reducible apply W.condF); exact rfl) | ((with_reducible apply Done.r); exact rfl) | (intro hb; try (exfalso; omega)) | ((with_reducible apply WR.bx); exact rfl; exact rfl; exact IsLawn.len (by assumption); exact rfl) | ((with_reducible apply WR.ld); (iterate 3 exact rfl); (exact loadC_all (IsLawn.len (by assumption))))
  all_goals first | exact bc1 (by assumption) | exact bc2 (by assumption) (ex_not (by assumption)) | exact bc0 (by assumption) (not_ex (by assumption)) trivial
end Go.DM

/- Moles: codes, cells beside. -/
namespace Go.DM
variable [Tok]
open Go.IntWalk
variable {w h : Int} {g : Nat → Int} {cs : List S} {q : Nat → Int} {qs : List S}
theorem beside_gives (x y : Int) (hx : -127 ≤ x ∧ x ≤ 126 ∧ -127 ≤ y ∧ y ≤ 126) : Gives G 89 [ac x y] ⟨[.own 4 2 (encC (Near x y))], []⟩ := by
  refine Gives.by rfl rfl (W.seq ?_)
  repeat' first | ((with_reducible first | apply WR.lx | apply WR.fa | apply WR.bu | apply WR.mv); exact rfl; exact rfl) | (with_reducible first | apply WR.nil | refine andThen_n ?_ | refine W.seq ?_ | refine W.region ?_ | refine W.ret ?_) | ((with_reducible apply Done.r); exact rfl) | ((with_reducible apply WR.ad); (iterate 3 exact rfl); (exact i8_in _ (by omega))) | ((with_reducible apply WR.sb); (iterate 3 exact rfl); (exact i8_in _ (by omega))) | ((with_reducible first | apply WR.bo | apply WR.bs); exact rfl; exact rfl; exact rfl)
  all_goals rfl
end Go.DM

/- slices.DeleteFunc over cells. -/
namespace Go.DM
variable [Tok]
open Go.IntWalk
theorem encC_tk : ∀ (m : List Cel) (k : Nat), (encC m).take (k * 2) = encC (m.take k)
  | [], k => by simp [encC]
  | p :: r, 0 => by simp [encC]
  | p :: r, k + 1 => by
    rw [show (k + 1) * 2 = k * 2 + 2 by omega]
    simp only [encC, List.take_succ_cons, encC_tk r k]
theorem encC_dr : ∀ (m : List Cel) (k : Nat), (encC m).drop (k * 2) = encC (m.drop k)
  | [], k => by simp [encC]
  | p :: r, 0 => by simp [encC]
  | p :: r, k + 1 => by
    rw [show (k + 1) * 2 = k * 2 + 2 by omega]
    simp only [encC, List.drop_succ_cons, encC_dr r k]
theorem encC_rep : ∀ n : Nat, replicate n [.int .i8 0, .int .i8 0] = encC (List.replicate n (0, 0))
  | 0 => rfl
  | n + 1 => by
    have ih := encC_rep n
    simp only [replicate, List.replicate_succ, List.flatten_cons, encC] at ih ⊢
    rw [ih]; rfl
theorem encC_set (m : List Cel) (i : Nat) (c : Cel) (h : i < m.length) : (encC m).take (i * 2) ++ [.int .i8 c.1, .int .i8 c.2] ++ (encC m).drop (i * 2 + 2) = encC (m.set i c) := by
  rw [show i * 2 + 2 = (i + 1) * 2 by omega, encC_tk, encC_dr, show ([.int .i8 c.1, .int .i8 c.2] : List S) = encC [c] from rfl, ← encC_append, ← encC_append]
  congr 1
  rw [List.set_eq_take_append_cons_drop, if_pos h]
  simp
theorem storeC {p : Bool} {m : List Cel} {i : Int} {c : Cel} (hi : 0 ≤ i) (h : i < (m.length : Nat)) : storeO 2 (.a (.d (.agg [.int .i8 c.1, .int .i8 c.2]))) (0 + i.toNat * 2) (.flat p (encC m)) = some (.flat p (encC (m.set i.toNat c))) := by
  have h2 : i.toNat < m.length := by omega
  have h3 := encC_length m
  simp only [storeO, cellsOf, Nat.zero_add]
  rw [if_pos ⟨rfl, by omega⟩]
  rw [← encC_set m i.toNat c h2]
theorem clearC (m : List Cel) (k : Nat) (h : k ≤ m.length) : (encC m).take (0 + k * 2) ++ replicate (m.length - k) [.int .i8 0, .int .i8 0] ++ (encC m).drop (0 + k * 2 + (m.length - k) * 2) = encC (m.take k ++ List.replicate (m.length - k) (0, 0)) := by
  rw [Nat.zero_add, encC_tk, encC_rep, List.drop_eq_nil_of_le (by rw [encC_length]; omega), List.append_nil, encC_append]
section
variable {Γ : Nat → Option Fn} {dsts : Nat → Option Nat} {ops : List Oper} {Q : St → Prop} {σ : St} {d : Option Nat} {g : Option (Nat × Bool)} {l1 l2 l3 l4 : List Nat}
theorem bound_n {k : IntKind} {i n : Nat} : bound (some (.a (.d (.s (.int k (i : Nat)))))) n = some i := by simp [bound, asI]
theorem WR.s2 {es p off n l h : Nat} {a : Opd} {lo hi : Option Opd} (hw : wanted dsts σ.env g = some true) (ha : ev σ.env a = .a (.sl p off n es)) (hl : bound (lo.map (ev σ.env)) 0 = some l) (hh : bound (hi.map (ev σ.env)) n = some h) (hb : l ≤ h ∧ h ≤ n)
    (K : WR Γ dsts ops Q (set d (.a (.sl p (off + l * es) (h - l) es)) σ)) : WR Γ dsts (⟨d, .slc (.sl es) a lo hi, g, l1, l2, l3, l4⟩ :: ops) Q σ :=
  WR.q hw (by simp only [quiet, ha, slc, hl, hh, Option.bind_some]; rw [if_pos ⟨hb.1, hb.2, trivial⟩]) K
theorem WR.cr {es p off n : Nat} {par : Bool} {zs cs : List S} {a : Opd} (hw : wanted dsts σ.env g = some true) (ha : ev σ.env a = .a (.sl p off n es)) (ho : σ.objs p = some (.flat par cs)) (hz : zs.length = es) (hc : off + n * es ≤ cs.length)
    (K : WR Γ dsts ops Q (put p (.flat par (cs.take off ++ replicate n zs ++ cs.drop (off + n * es))) σ)) : WR Γ dsts (⟨none, .clr es zs a, g, l1, l2, l3, l4⟩ :: ops) Q σ := by
  refine WR.cons ⟨0, step_dl (r := ⟨.tup [], [], [(p, .flat par (cs.take off ++ replicate n zs ++ cs.drop (off + n * es)))]⟩) hw ?_ rfl⟩ ?_
  · simp only [delta, ha, ho]
    rw [if_pos ⟨trivial, hz, hc⟩]
  · simp only [applyD, insertAll, kill_nil, set]
    exact K
end
theorem toDV_sl {objs : Nat → Option Ob} {p : Nat} {par : Bool} {l : List Cel} (h : objs p = some (.flat par (encC l))) (k : Nat) : toDV objs (k + 1) (.a (.sl p 0 l.length 2)) = some (.sl l.length 2 (encC l)) := by
  simp only [toDV, toDA, h]
  rw [if_pos (by rw [encC_length]; omega), encC_take l _ rfl]
def kept (P : Cel → Prop) [DecidablePred P] (l : List Cel) : List Cel := l.filter fun c => decide (¬ P c)
theorem kept_all {P : Cel → Prop} [DecidablePred P] {l : List Cel} (h : ∀ c ∈ l, ¬ P c) : kept P l = l := by
  unfold kept
  rw [List.filter_eq_self]
  intro c hc; simpa using h c hc
theorem idxOf_spec (P : Cel → Prop) [DecidablePred P] : ∀ (l : List Cel) (i : Int), 0 ≤ i → (idxOf P l i = -1 ∧ ∀ c ∈ l, ¬ P c) ∨ ∃ (k : Nat) (c : Cel), idxOf P l i = i + k ∧ l[k]? = some c ∧ P c ∧ ∀ d ∈ l.take k, ¬ P d
  | [], i, hi => .inl ⟨rfl, fun c hc => by cases hc⟩
  | c :: r, i, hi => by
    by_cases h : P c
    · refine .inr ⟨0, c, ?_, rfl, h, fun d hd => by simp at hd⟩
      simp [idxOf, h]
    · rcases idxOf_spec P r (i + 1) (by omega) with ⟨h1, h2⟩ | ⟨k, d, h1, h2, h3, h4⟩
      · refine .inl ⟨by simp only [idxOf, if_neg h, h1], fun d hd => ?_⟩
        rcases List.mem_cons.1 hd with rfl | hd
        · exact h
        · exact h2 d hd
      · refine .inr ⟨k + 1, d, by simp only [idxOf, if_neg h, h1]; omega, by simpa using h2, h3, fun e he => ?_⟩
        rw [List.take_succ_cons] at he
        rcases List.mem_cons.1 he with rfl | he
        · exact h
        · exact h4 e he
theorem kept_take {P : Cel → Prop} [DecidablePred P] {l : List Cel} {j : Nat} {c : Cel} (h : l[j]? = some c) : kept P (l.take (j + 1)) = kept P (l.take j) ++ (if P c then [] else [c]) := by
  obtain ⟨h1, h2⟩ := List.getElem?_eq_some_iff.1 h
  unfold kept
  rw [List.take_add_one, h, List.filter_append]
  congr 1
  by_cases hp : P c <;> simp [hp]
theorem args_sl {σ : St} {p : Nat} {par : Bool} {l : List Cel} {x : D} (h : σ.objs p = some (.flat par (encC l))) : args σ [] [] [.a (.sl p 0 l.length 2), .a (.d x)] = some [asl l, .d x] := by
  have h1 : toDV (fun o => if ([] : List Nat).contains o then none else σ.objs o) depth (.a (.sl p 0 l.length 2)) = some (.sl l.length 2 (encC l)) := toDV_sl (by simpa using h) 5
  simp only [args]
  rw [h1]
  rfl
theorem finish_ms {fn : Fn} {σ : St} {t n es0 off m es : Nat} {cs cs' : List S} {x : D} (hr : fn.res = [.tmp t]) (he : σ.env t = .a (.sl 0 off m es)) (ho : σ.objs 0 = some (.flat true cs')) (hl : cs'.length = cs.length) :
    finish fn [.ms n es0 cs, .d x] σ = some ⟨[.par 0 off m es], [cs']⟩ := by
  simp [finish, hr, all?, resV, he, retOf, ho, nodup, outsOf, isMut, outOf, hl]
theorem deleteFunc_gives {f : Nat} {fn : Fn} {z : D} (P : Cel → Prop) [DecidablePred P] (l : List Cel) (hl : l.length ≤ 1000) (hf : G f = some fn) (hm : fn.muts = []) (hP : ∀ c ∈ l, Gives G f [ac c.1 c.2, .d z] (rb (decide (P c)))) :
    Gives G 63 [.ms l.length 2 (encC l), .d (.clo f [] [z])] ⟨[.par 0 0 (kept P l).length 2], [encC (kept P l ++ List.replicate (l.length - (kept P l).length) (0, 0))]⟩ := by
  refine Gives.by rfl rfl (W.seq ?_)
  repeat' first | ((with_reducible apply WR.mv); exact rfl; exact rfl) | (with_reducible first | apply WR.nil | refine andThen_n ?_ | refine W.seq ?_ | refine W.region ?_)
  (with_reducible apply WR.cs); (iterate 3 exact rfl); exact args_sl rfl; exact indexFunc_gives P l hl hf hm hP; exact rfl
  rcases idxOf_spec P l 0 (by omega) with ⟨h1, h2⟩ | ⟨k, c0, h1, h2, h3, h4⟩
  · rw [h1]
    repeat' first | ((with_reducible apply WR.mv); exact rfl; exact rfl) | (with_reducible first | apply WR.nil | refine andThen_n ?_ | refine andThen_r ?_ | refine W.seq ?_ | refine W.region ?_ | refine W.ret ?_) | ((with_reducible apply W.condT); exact rfl) | (intro hb; try (exfalso; omega)) | ((with_reducible apply WR.eql); iterate 3 exact rfl)
    refine Done.r (finish_ms rfl rfl rfl rfl) ?_
    rw [kept_all h2]; simp
  · rw [show idxOf P l 0 = (k : Int) by omega]
    have hk : k < l.length := (List.getElem?_eq_some_iff.1 h2).1
    repeat' first | ((with_reducible apply WR.mv); exact rfl; exact rfl) | ((with_reducible apply WR.ad); (iterate 3 exact rfl); (exact i64_in _ (by omega))) | (with_reducible first | apply WR.nil | refine andThen_n ?_ | refine W.seq ?_ | refine W.region ?_ | refine W.skip ?_ | refine W.block ?_) | ((with_reducible apply W.condF); exact rfl) | (intro hb; try (exfalso; omega)) | ((with_reducible apply WR.eql); iterate 3 exact rfl)
    refine W.loopI (fun n σ => ∃ (i j : Nat) (m : List Cel), n = l.length - j ∧ i ≤ j ∧ j ≤ l.length ∧ m.length = l.length ∧ m.take i = kept P (l.take j) ∧ m.drop j = l.drop j ∧ σ.env 5 = .a (.d (.s (.int .i64 i))) ∧ σ.env 6 = .a (.d (.s (.int .i64 j))) ∧ σ.env 0 = .a (.sl 0 0 l.length 2) ∧ σ.env 1 = .a (.d (.clo f [] [z])) ∧ σ.objs 0 = some (.flat true (encC m)) ∧ noPar σ [7] = true)
      ?_ _ _ ⟨k, k + 1, l, rfl, by omega, by omega, rfl, by rw [kept_take h2, if_pos h3, kept_all h4, List.append_nil], rfl, rfl, rfl, rfl, rfl, rfl, rfl⟩
    rintro n σ ⟨i, j, m, rfl, hij, hj, hml, hti, hdj, e5, e6, e0, e1, o0, n7⟩
    rw [← set_self e5, ← set_self e6, ← set_self e0, ← set_self e1, ← put_self o0]
    repeat' first | ((with_reducible first | apply WR.mv | apply WR.le); exact rfl; exact rfl) | (with_reducible first | apply WR.nil | refine andThen_n ?_ | refine andThen_x ?_ | refine inB_x ?_ | refine W.seq ?_ | refine W.region ?_ | refine W.skip ?_ | refine W.exit ?_ | refine W.block ?_) | ((with_reducible apply W.condT); exact rfl) | ((with_reducible apply W.condF); exact rfl) | (intro hb; try (exfalso; omega)) | ((with_reducible apply WR.lss); iterate 3 exact rfl)
    · obtain ⟨c, hc⟩ : ∃ c, l[j]? = some c := ⟨l[j]'(by omega), by simp⟩
      have hmc : m[j]? = some c := by
        have e1 : (m.drop j)[0]? = m[j]? := by simp
        have e2 : (l.drop j)[0]? = l[j]? := by simp
        rw [← e1, hdj, e2, hc]
      have hdj' : m.drop (j + 1) = l.drop (j + 1) := by
        have := congrArg (List.drop 1) hdj
        rwa [List.drop_drop, List.drop_drop] at this
      have hmem : c ∈ l := List.mem_of_getElem? hc
      (with_reducible apply WR.is); (iterate 3 exact rfl); exact ⟨by omega, by omega⟩
      (with_reducible apply WR.ld); (iterate 3 exact rfl); exact encC_load' m j (by omega) c (by simpa using hmc)
      repeat' first | ((with_reducible first | apply WR.mv | apply WR.lx); exact rfl; exact rfl) | (with_reducible first | apply WR.nil | refine andThen_n ?_ | refine W.seq ?_ | refine W.region ?_) | ((with_reducible apply WR.st); iterate 4 exact rfl) | ((with_reducible apply WR.al); exact rfl; (assumption))
      (with_reducible apply WR.vp); exact rfl; exact rfl; exact hf; exact hm; exact rfl; exact hP c hmem
      all_goals repeat' first | ((with_reducible apply WR.mv); exact rfl; exact rfl) | ((with_reducible apply WR.ad); (iterate 3 exact rfl); (exact i64_in _ (by omega))) | ((with_reducible apply WR.lx); exact rfl; exact rfl) | ((with_reducible apply WR.nil)) | (with_reducible refine andThen_n ?_) | (with_reducible refine inB_n ?_) | (with_reducible refine W.seq ?_) | (with_reducible refine W.region ?_) | (with_reducible refine W.skip ?_) | ((with_reducible apply W.condT); exact rfl) | ((with_reducible apply W.condF); exact rfl) | (intro hb; try (exfalso; omega)) | ((with_reducible apply WR.un); exact rfl; exact rfl)
      · have hp : P c := by assumption
        exact ⟨_, by omega, i, j + 1, m, rfl, by omega, by omega, hml, by rw [kept_take hc, if_pos hp, List.append_nil, hti], hdj', rfl, rfl, rfl, rfl, rfl, rfl⟩
      · have hp : ¬ P c := by assumption
        (with_reducible apply WR.is); (iterate 3 exact rfl); exact ⟨by omega, by omega⟩
        (with_reducible apply WR.st); (iterate 3 exact rfl); exact storeC (by omega) (by omega)
        repeat' first | ((with_reducible apply WR.mv); exact rfl; exact rfl) | ((with_reducible apply WR.ad); (iterate 3 exact rfl); (exact i64_in _ (by omega))) | (with_reducible first | apply WR.nil | refine andThen_n ?_ | refine inB_n ?_ | refine W.region ?_)
        refine ⟨_, by omega, i + 1, j + 1, m.set i c, rfl, by omega, by omega, by simpa using hml, ?_, ?_, rfl, rfl, rfl, rfl, rfl, rfl⟩
        · rw [kept_take hc, if_neg hp, ← hti, List.take_add_one, List.take_set_of_le (by omega), List.getElem?_set_self (by omega)]
          rfl
        · rw [List.drop_set_of_lt (by omega), hdj']
    · have hjn : j = l.length := by omega
      subst hjn
      rw [List.take_length] at hti
      have hil : (kept P l).length = i := by rw [← hti, List.length_take]; omega
      (with_reducible apply WR.s2); exact rfl; exact rfl; exact bound_n; exact rfl; exact ⟨by omega, by omega⟩
      (with_reducible apply WR.cr); (iterate 4 exact rfl); exact (by rw [encC_length]; omega)
      repeat' first | ((with_reducible apply WR.mv); exact rfl; exact rfl) | (with_reducible first | apply WR.nil | refine andThen_n ?_ | refine W.seq ?_ | refine W.region ?_)
      (with_reducible apply WR.s2); (iterate 3 exact rfl); exact bound_n; exact ⟨by omega, by omega⟩
      repeat' first | ((with_reducible apply WR.mv); exact rfl; exact rfl) | (with_reducible first | apply WR.nil | refine andThen_n ?_ | refine W.ret ?_)
      have hcl := clearC m i (by omega)
      rw [hml, hti] at hcl
      rw [hil, ← hcl]
      refine Done.r (finish_ms rfl rfl rfl ?_) ?_
      · rw [hcl, encC_length, encC_length, List.length_append, List.length_replicate, hil]; omega
      · simp
end Go.DM

/- Levels with one more; the closures of a mole's night. -/
namespace Go.DM
variable [Tok]
open Go.IntWalk
variable {w h : Int} {g : Nat → Int} {cs : List S} {q : Nat → Int} {qs : List S}
theorem storeAll {p : Bool} {n : Nat} {cs xs : List S} (h1 : xs.length = n) (h2 : cs.length = n) : storeO n (.a (.d (.agg xs))) 0 (.flat p cs) = some (.flat p xs) := by
  simp only [storeO, cellsOf]
  rw [if_pos ⟨h1, by omega⟩, List.drop_eq_nil_of_le (by omega)]
  simp
def levSet (q : Nat → Int) (k : Nat) (n : Int) : Nat → Int := fun i => if i = k then n else q i
theorem IsLev.set (v : IsLev q qs) {k : Nat} (hk : k < 100) {n : Int} (hn : -128 ≤ n ∧ n ≤ 127) : IsLev (levSet q k n) (qs.set k (.int .i8 n)) := by
  refine ⟨fun i hi => ?_, by rw [List.length_set]; exact v.len, fun i hi => ?_⟩
  · simp only [levSet]; split
    · exact hn
    · exact v.cb i hi
  · simp only [levSet]
    by_cases e : i = k
    · subst e; rw [if_pos rfl, List.getElem?_set_self (by rw [v.len]; exact hi)]
    · rw [if_neg e, List.getElem?_set_ne (fun h => e h.symm)]; exact v.c i hi
end Go.DM
