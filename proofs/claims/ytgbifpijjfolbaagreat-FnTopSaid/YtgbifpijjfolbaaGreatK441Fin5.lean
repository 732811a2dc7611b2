/- Ways: a small lawn and a way that are drawn; lists held against each other; ends of ways. -/
import Derived.Test.YtgbifpijjfolbaaGreatK441ShortQ
import Derived.Test.YtgbifpijjfolbaaGreatK441Src
import Derived.Test.YtgbifpijjfolbaaGreatK441MolesC
import Derived.Test.YtgbifpijjfolbaaGreatK441ShortW
import Derived.Test.YtgbifpijjfolbaaGreatK441ShortV
import Derived.Test.YtgbifpijjfolbaaGreatK441Fin4
set_option linter.all false
set_option maxHeartbeats 4000000
namespace Go.DM
variable [Tok]
open Go.IntWalk
variable {w h : Int} {g : Nat → Int} {cs : List S}
section
variable {Γ : Nat → Option Fn} {dsts : Nat → Option Nat} {ops : List Oper} {Q : St → Prop} {σ : St} {d : Option Nat} {gd : Option (Nat × Bool)} {l1 l2 l3 l4 : List Nat}
end
theorem among_gives (i n : Nat) (seed : Int) (L : List Int) (hn : n ≤ 1000000000) (hl : (Tok.dat i).length ≤ 1000000000) (hL : 1 ≤ L.length ∧ L.length ≤ 200) :
    ∃ (r : Int) (n' : Nat) (seed' : Int), r ∈ L ∧ n' ≤ n + 1 ∧ Gives G 399 [.mp (srcC i n seed), .d (.sl L.length 1 (encI .i64 L))] ⟨[.s (.int .i64 r)], [srcC i n' seed']⟩ := by
  obtain ⟨r, n', seed', h1, h2, h3, h4, h5⟩ := pick_gives i n seed L.length hn hl (by omega)
  have hr := h3 (by omega)
  obtain ⟨k, rfl⟩ : ∃ k : Nat, r = k := ⟨r.toNat, by omega⟩
  refine ⟨gI L k, n', seed', ?_, h4, ?_⟩
  · rw [gI, List.getD_eq_getElem?_getD, List.getElem?_eq_getElem (by omega)]; exact List.getElem_mem (by omega)
  · refine Gives.by rfl rfl (W.seq ?_)
    repeat' first | ((with_reducible apply WR.c_ws (f := 377) (fn := Code.f377)); (iterate 3 exact rfl); (focus ((repeat' first | exact args_nil | apply args_d | (apply args_p; exact rfl; exact rfl) | exact toD_d rfl | exact all_nil | apply all_cons | exact rfl); done)); exact h5; (focus ((repeat' first | exact backs_no | (apply backs_p; exact rfl; exact rfl; exact (by first | exact rfl)) | exact rfl); done)); dsimp only [insertAll]) | ((with_reducible first | apply WR.mv | apply WR.le); exact rfl; exact rfl) | (with_reducible first | apply WR.nil | refine andThen_n ?_ | refine W.seq ?_ | refine W.region ?_ | refine W.ret ?_) | ((with_reducible apply Done.f); (intro hh hh2; exact (nomatch hh2)); (focus ((repeat' first | exact all_nil | apply all_cons | exact res_tmp rfl | exact rfl); done)); (focus ((repeat' first | exact all_nil | apply all_cons | exact retOf_s rfl | exact rfl); done)); exact rfl; (focus ((repeat' first | exact outs_nil | apply outs_d | (apply outs_mp; exact rfl; exact (by first | exact rfl)) | exact rfl); done))) | ((with_reducible apply WR.idn); (iterate 3 exact rfl); omega; (exact Nat.le_of_eq ((encI_length _ _).trans (Nat.mul_one _).symm).symm)) | ((with_reducible apply WR.ldd); exact rfl; exact rfl; (first | exact ldId (by first | omega)))
    rfl
theorem bound_at {k : Int} (hk : 0 ≤ k) {m : Nat} : bound (some (.a (.d (.s (.int .i64 k))))) m = some k.toNat := by
  show (if 0 ≤ k then some k.toNat else none) = _
  rw [if_pos hk]
theorem bound_at1 {k : Int} (hk : 0 ≤ k) {m : Nat} : bound (some (.a (.d (.s (.int .i64 (k + 1)))))) m = some (k.toNat + 1) := by
  show (if 0 ≤ k + 1 then some (k + 1).toNat else none) = _
  rw [if_pos (by omega)]; congr 1; omega
theorem cut_letter {k : Int} (hk : 0 ≤ k ∧ k ≤ 3) : (([78, 87, 69, 83] : List UInt8).drop k.toNat).take (k.toNat + 1 - k.toNat) = [letB k] := by
  obtain rfl | rfl | rfl | rfl : k = 0 ∨ k = 1 ∨ k = 2 ∨ k = 3 := by omega
  all_goals rfl
section
variable {Γ : Nat → Option Fn} {dsts : Nat → Option Nat} {ops : List Oper} {Q : St → Prop} {σ : St} {d : Option Nat} {gd : Option (Nat × Bool)} {l1 l2 l3 l4 : List Nat}
theorem WR.sl1 {a lo hi : Opd} {k : Int} (hw : wanted dsts σ.env gd = some true) (ha : ev σ.env a = .a (.d (.s (.str [78, 87, 69, 83])))) (hl : ev σ.env lo = .a (.d (.s (.int .i64 k)))) (hh : ev σ.env hi = .a (.d (.s (.int .i64 (k + 1))))) (hk : 0 ≤ k ∧ k ≤ 3)
    (K : WR Γ dsts ops Q (set d (.a (.d (.s (.str [letB k])))) σ)) : WR Γ dsts (⟨d, .slc .str a (some lo) (some hi), gd, l1, l2, l3, l4⟩ :: ops) Q σ := by
  refine WR.sst (l := k.toNat) (h := k.toNat + 1) hw ha ?_ ?_ ⟨by omega, by show k.toNat + 1 ≤ 4; omega⟩ ?_
  · rw [Option.map_some, hl]; exact bound_at hk.1
  · rw [Option.map_some, hh]; exact bound_at1 hk.1
  · rw [cut_letter hk]; exact K
end
theorem endL_one (c : Cel) (b : UInt8) : endL c [b] = nx c (lu b) := rfl
theorem a2way_gives (l : IsLawn w h g cs) (hs : w ≤ 10 ∧ h ≤ 10) (c : Cel) (hO : Opn w h g c.1 c.2) (i : Nat) (hl : (Tok.dat i).length ≤ 1000000000) :
    ∃ s : List UInt8, Lets s ∧ s.length ≤ 19 ∧ Safe w h g s c ∧ Gives G 383 [.d (.s (.tok i)), aa cs, ac c.1 c.2] ⟨[.s (.str s)], []⟩ := by
  obtain ⟨r1, n1, s1, a1, _, b1, c1, g1⟩ := pick_gives i 0 0 20 (by omega) hl (by omega)
  have ho := from_gives i
  have hb1 := b1 (by omega)
  suffices hss : ∃ r : Res, (∃ s : List UInt8, (Lets s ∧ s.length ≤ 19 ∧ Safe w h g s c) ∧ r = ⟨[.s (.str s)], []⟩) ∧ Gives G 383 [.d (.s (.tok i)), aa cs, ac c.1 c.2] r by
    obtain ⟨r, ⟨s, ⟨h1, h2, h3⟩, rfl⟩, h4⟩ := hss
    exact ⟨s, h1, h2, h3, h4⟩
  have hfree := fun (e : Cel) (he : -128 ≤ e.1 ∧ e.1 ≤ 127 ∧ -128 ≤ e.2 ∧ e.2 ≤ 127) => l02Free_gives l hs e.1 e.2 he
  refine GivesP.by rfl rfl (W.seq ?_)
  repeat' first | ((with_reducible apply WR.c_n (f := 375) (fn := Code.f375)); (iterate 3 exact rfl); (first | exact rfl | exact backs_no); (focus ((repeat' first | exact args_nil | apply args_d | (apply args_p; exact rfl; exact rfl) | exact toD_d rfl | exact rfl); done)); exact ho; exact rfl) | ((with_reducible apply WR.c_ws (f := 377) (fn := Code.f377)); (iterate 3 exact rfl); (focus ((repeat' first | exact args_nil | apply args_d | (apply args_p; exact rfl; exact rfl) | exact toD_d rfl | exact rfl); done)); exact g1; (focus ((repeat' first | exact backs_no | (apply backs_p; exact rfl; exact rfl; exact (by first | exact IsLawn.len (by assumption) | exact rfl)) | exact rfl); done)); dsimp only [insertAll]) | ((with_reducible apply WR.mv); exact rfl; exact rfl) | (with_reducible first | apply WR.nil | refine andThen_n ?_ | refine W.seq ?_ | refine W.region ?_ | refine W.block ?_) | ((with_reducible apply WR.bx); exact rfl; exact rfl; exact (by first | exact IsLawn.len (by assumption) | exact rfl); exact rfl)
  (refine (?_ : W _ (Code.loop _) _ _))
  (refine W.loopM [4, 5, 7] [4] [] (fun ((m, n, sd, s, e) : (Int) × (Nat) × (Int) × (List UInt8) × (Cel)) => (m.toNat : Nat)) (fun ((m, n, sd, s, e) : (Int) × (Nat) × (Int) × (List UInt8) × (Cel)) => (0 ≤ m ∧ (s.length : Int) + m ≤ 19 ∧ (n : Int) + m ≤ 20 ∧ Lets s ∧ Safe w h g s c ∧ e = endL c s : Prop)) (fun z : (Int) × (Nat) × (Int) × (List UInt8) × (Cel) => match z with | (m, n, sd, s, e) => [(8, .a (.d (.s (.str s)))), (9, .a (.d (.s (.int .i64 m))))]) (fun z : (Int) × (Nat) × (Int) × (List UInt8) × (Cel) => match z with | (m, n, sd, s, e) => [(5, .flat false ([.int .i8 e.1, .int .i8 e.2])), (12, .flat false (srcC i n sd))]) (r1, n1, s1, [], c) (⟨by omega, by simp; omega, by omega, fun _ k => by (cases k), hO, rfl⟩) ⟨rfl, rfl, trivial⟩ ⟨rfl, rfl, trivial⟩ trivial ?_)
  rintro ⟨m, n, sd, s, e⟩ σ hP hN; dsimp only [setL, putL] at hP ⊢
  obtain ⟨hm, hsl, hnl, hlt, hsf, he⟩ := hP
  by_cases hm0 : m = 0
  · subst hm0
    repeat' first | ((with_reducible apply WR.mv); exact rfl; exact rfl) | (with_reducible first | apply WR.nil | refine andThen_n ?_ | refine andThen_x ?_ | refine inB_x ?_ | refine W.seq ?_ | refine W.region ?_ | refine W.ret ?_ | refine W.exit ?_) | ((with_reducible apply W.condF); exact rfl) | (intro hb; try (exfalso; omega)) | ((with_reducible apply WR.gtr); iterate 3 exact rfl)
    apply DoneP.mk
    · repeat' first | ((with_reducible apply Done.f); (intro hh hh2; exact (nomatch hh2)); (focus ((repeat' first | exact all_nil | apply all_cons | exact res_tmp rfl); done)); (focus ((repeat' first | exact all_nil | apply all_cons | exact retOf_s rfl); done)); exact rfl; (focus ((repeat' first | exact outs_nil | apply outs_d); done)))
      rfl
    · exact ⟨s, ⟨hlt, by omega, hsf⟩, rfl⟩
  · obtain ⟨k, n5, s5, k1, _, k3, c5, g5⟩ := pick_gives i n sd 4 (by omega) hl (by omega)
    have hk3 := k3 (by omega)
    have heH : Has w h e.1 e.2 := he ▸ hsf.stop.1
    simp only [Has] at heH
    have hnr := nx_near e (k := k) (by omega)
    have hlu : nx e (lu (letB k)) = nx e k := by rw [letB_lu (by omega)]
    have hcut := cut_letter (k := k) (by omega)
    repeat' first | ((with_reducible apply WR.c_ws (f := 377) (fn := Code.f377)); (iterate 3 exact rfl); (focus ((repeat' first | exact args_nil | apply args_d | (apply args_p; exact rfl; exact rfl) | exact toD_d rfl | exact toD_ptr rfl rfl | exact rfl); done)); exact g5; (focus ((repeat' first | exact backs_no | (apply backs_p; exact rfl; exact rfl; exact (by first | exact rfl)) | exact rfl); done)); dsimp only [insertAll]) | ((with_reducible apply WR.c_a (f := 109) (fn := Code.f109)); (iterate 3 exact rfl); (first | exact rfl | exact backs_no); (focus ((repeat' first | exact args_nil | apply args_d | (apply args_p; exact rfl; exact rfl) | exact toD_d rfl | exact toD_ptr rfl rfl | exact rfl); done)); exact l02Next_gives e k (by omega) (by omega)) | ((with_reducible apply WR.c_p (f := 108) (fn := Code.f108)); (iterate 3 exact rfl); (first | exact rfl | exact backs_no); (focus ((repeat' first | exact args_nil | apply args_d | (apply args_p; exact rfl; exact rfl) | exact toD_d rfl | exact toD_ptr rfl rfl | exact rfl); done)); exact hfree (nx e k) (by omega)) | ((with_reducible apply WR.sl1); (iterate 4 exact rfl); omega) | ((with_reducible apply WR.mv); exact rfl; exact rfl) | (with_reducible first | apply WR.nil | refine andThen_n ?_ | refine inB_n ?_ | refine W.seq ?_ | refine W.region ?_ | refine W.skip ?_ | refine W.block ?_) | ((with_reducible apply W.condT); exact rfl) | ((with_reducible apply W.condF); exact rfl) | (intro hb; try (exfalso; omega)) | ((with_reducible apply WR.sad); (iterate 3 exact rfl); ((simp only [List.length_append, List.length_cons, List.length_nil, List.length_map]; omega))) | ((with_reducible apply WR.ad); (iterate 3 exact rfl); (exact i64_in _ (by omega))) | ((with_reducible apply WR.ld); (iterate 3 exact rfl); (exact ld2)) | ((with_reducible apply WR.gtr); iterate 3 exact rfl) | ((with_reducible apply WR.sb); (iterate 3 exact rfl); (exact i64_in _ (by omega))) | ((with_reducible apply WR.st); (iterate 3 exact rfl); exact st2)
    · (refine W.nxt (m - 1, n5, s5, s ++ [letB k], nx e k) (by first | omega | (dsimp only; omega)) ?_ ⟨rfl, rfl, trivial⟩ ⟨rfl, rfl, trivial⟩ ⟨rfl, rfl, rfl, trivial⟩ ⟨rfl, trivial⟩ trivial); (try dsimp only)
      refine ⟨by omega, by rw [List.length_append, List.length_singleton]; omega, by omega, hlt.app (fun b hb => ?_), safe_app.2 ⟨hsf, ?_⟩, ?_⟩
      · rw [List.mem_singleton.1 hb, letB_lu (by omega)]; omega
      · rw [← he, safe_one, hlu]; exact ⟨he ▸ hsf.stop, by assumption⟩
      · rw [endL_app, ← he, endL_one, hlu]
    · (refine W.nxt (m - 1, n5, s5, s, e) (by first | omega | (dsimp only; omega)) ?_ ⟨rfl, rfl, trivial⟩ ⟨rfl, rfl, trivial⟩ ⟨rfl, rfl, rfl, trivial⟩ ⟨rfl, trivial⟩ trivial); (try dsimp only)
      exact ⟨by omega, by omega, by omega, hlt, hsf, he⟩
end Go.DM

/- Ways: whether they are right, where they end, ways back: both sides; lists held against each other. -/
set_option maxHeartbeats 4000000
namespace Go.DM
variable [Tok]
open Go.IntWalk
variable {w h : Int} {g : Nat → Int} {cs : List S}
end Go.DM

/- Ways: loosened ways, ways home, steps: both sides. -/
set_option maxHeartbeats 4000000
namespace Go.DM
variable [Tok]
open Go.IntWalk
variable {w h : Int} {g : Nat → Int} {cs : List S}
section
variable {Γ : Nat → Option Fn} {dsts : Nat → Option Nat} {ops : List Oper} {Q : St → Prop} {σ : St} {d : Option Nat} {gd : Option (Nat × Bool)} {l1 l2 l3 l4 : List Nat}
end
end Go.DM

/- Ways: what is known of a way that is drawn. -/
namespace Go.DM
variable [Tok]
open Go.IntWalk
structure CellFact (w h : Int) (CUT REST : List Cel) (PIC : List (List UInt8)) (n : Int) (x y : Int) : Prop where
  hs : Has w h x y
  b : 0 ≤ n ∧ n ≤ 20
  row : ((gS PIC y.toNat).length : Int) = w
  cut : 0 < n ↔ (x, y) ∈ CUT
  rest : (x, y) ∈ CUT → (x, y) ∉ REST
  pic : 0 < n ↔ gB (gS PIC y.toNat) x.toNat ≠ 46
end Go.DM

/- Ways: what is known of a way that is drawn is so. -/
set_option maxHeartbeats 4000000
namespace Go.DM
variable [Tok]
open Go.IntWalk
variable {w h : Int} {g : Nat → Int} {cs : List S}
theorem allC_ix (hs : 0 ≤ w ∧ w ≤ 10 ∧ h ≤ 10) : (allC w h).Pairwise (fun a b => ix a ≠ ix b) :=
  List.Pairwise.imp_of_mem (fun {a b} ha hb hab e => hab (ix_inj ⟨hs.2.1, hs.2.2⟩ (allC_mem ha) (allC_mem hb) e)) (allC_nodup (h := h) hs.1)
end Go.DM

/- A small lawn that is drawn has few cells of grass (for FnTop). -/
set_option maxHeartbeats 4000000
namespace Go.DM
variable [Tok]
open Go.IntWalk
def cntG (q : Nat → Int) (L : List Cel) : Nat := (L.filter fun c => decide (q (ix c) = 0)).length
theorem cntG_set {q : Nat → Int} {A : List Cel} (hA : A.Pairwise fun a b => ix a ≠ ix b) {k : Nat} (hk : k < A.length) (v : Int) : (cntG (gset q (10 * (gC A k).2.toNat + (gC A k).1.toNat) v) (A.take (k + 1)) : Int) = cntG q (A.take k) + if v = 0 then 1 else 0 := by
  have htk : A.take (k + 1) = A.take k ++ [gC A k] := by
    rw [List.take_add_one, gC_get hk]; rfl
  have hne : ∀ a ∈ A.take k, ix a ≠ ix (gC A k) := fun a ha => by
    have h2 : (A.take (k + 1)).Pairwise fun a b => ix a ≠ ix b := hA.sublist (List.take_sublist ..)
    rw [htk, List.pairwise_append] at h2
    exact h2.2.2 a ha _ (List.mem_singleton.2 rfl)
  unfold cntG
  rw [htk, List.filter_append, List.length_append]
  have e1 : (A.take k).filter (fun c => decide (gset q (10 * (gC A k).2.toNat + (gC A k).1.toNat) v (ix c) = 0)) = (A.take k).filter fun c => decide (q (ix c) = 0) := by
    apply List.filter_congr
    intro a ha
    have h3 : gset q (10 * (gC A k).2.toNat + (gC A k).1.toNat) v (ix a) = q (ix a) := if_neg (hne a ha)
    simp only [h3]
  rw [e1]
  by_cases hv : v = 0
  · rw [List.filter_cons_of_pos (by simp [gset, hv]), if_pos hv]; simp
  · rw [List.filter_cons_of_neg (by simp [gset, hv]), if_neg hv]; simp
theorem cntG_le {q : Nat → Int} (i : Nat) : ∀ A : List Cel, cntG (gset q i 3) A ≤ cntG q A
  | [] => by simp [cntG]
  | a :: r => by
    have ih := cntG_le (q := q) i r
    unfold cntG at ih ⊢
    by_cases e : ix a = i
    · rw [List.filter_cons_of_neg (by simp [gset, e])]
      refine Nat.le_trans ih ?_
      rw [List.filter_cons]; split
      · simp
      · exact Nat.le_refl _
    · by_cases h0 : q (ix a) = 0
      · rw [List.filter_cons_of_pos (by simp [gset, e, h0]), List.filter_cons_of_pos (by simp [h0])]
        simp only [List.length_cons]; omega
      · rw [List.filter_cons_of_neg (by simp [gset, e, h0]), List.filter_cons_of_neg (by simp [h0])]; exact ih
theorem kinds_two {g : Nat → Int} : ∀ A : List Cel, (A.filter fun c => decide (g (ix c) = 0)).length + (A.filter fun c => decide (g (ix c) = 3)).length ≤ A.length
  | [] => by simp
  | a :: r => by
    have ih := kinds_two (g := g) r
    rw [List.filter_cons, List.filter_cons]
    by_cases h0 : g (ix a) = 0
    · have h3 : ¬ g (ix a) = 3 := by omega
      rw [if_pos (by simpa using h0), if_neg (by simpa using h3)]
      simp only [List.length_cons]; omega
    · rw [if_neg (by simpa using h0)]
      split
      all_goals
        simp only [List.length_cons]; omega
theorem allC_12 {w h : Int} (hw : 1 ≤ w ∧ w ≤ 4) (hh : 1 ≤ h ∧ h ≤ 3) : (allC w h).length ≤ 12 := by
  unfold allC
  rw [cellsTo_len]
  have : w.toNat * h.toNat ≤ 4 * 3 := Nat.mul_le_mul (by omega) (by omega)
  omega
theorem a2smallG_gives (i : Nat) (hl : (Tok.dat i).length ≤ 1000000000) :
    ∃ (w h : Int) (q : Nat → Int) (x y : Int), (1 ≤ w ∧ w ≤ 4) ∧ (1 ≤ h ∧ h ≤ 3) ∧ kindsOk w h q ∧ Opn w h q x y ∧ (ofKind w h q 0).length ≤ 7 ∧ Gives G 382 [.d (.s (.tok i))] ⟨[.agg (lwn w h q), .agg [.int .i8 x, .int .i8 y]], []⟩ := by
  obtain ⟨r1, n1, s1, a1, _, b1, c1, g1⟩ := pick_gives i 0 0 4 (by omega) hl (by omega)
  obtain ⟨r2, n2, s2, a2, _, b2, c2, g2⟩ := pick_gives i n1 s1 3 (by omega) hl (by omega)
  have ho := from_gives i
  have lw := isLwn (1 + r1) (1 + r2) (fun _ => 0) (by omega) (by omega) (fun _ _ => ⟨by decide, by decide⟩)
  have hA := allC_len (w := 1 + r1) (h := 1 + r2) (by omega)
  have hmem := fun c => allC_mem (w := 1 + r1) (h := 1 + r2) (c := c)
  have hk0 : kindsOk (1 + r1) (1 + r2) (fun _ => 0) := fun k _ => ⟨Int.le_refl _, by show (0 : Int) ≤ 3; omega, .inl rfl⟩
  suffices hs : ∃ r : Res, (∃ (q : Nat → Int) (x y : Int), kindsOk (1 + r1) (1 + r2) q ∧ Opn (1 + r1) (1 + r2) q x y ∧ (ofKind (1 + r1) (1 + r2) q 0).length ≤ 7 ∧ r = ⟨[.agg (lwn (1 + r1) (1 + r2) q), .agg [.int .i8 x, .int .i8 y]], []⟩) ∧ Gives G 382 [.d (.s (.tok i))] r by
    obtain ⟨r, ⟨q, x, y, h1, h2, h3, rfl⟩, h4⟩ := hs
    exact ⟨1 + r1, 1 + r2, q, x, y, by omega, by omega, h1, h2, h3, h4⟩
  refine GivesP.by rfl rfl (W.seq ?_)
  repeat' first | ((with_reducible apply WR.c_n (f := 375) (fn := Code.f375)); (iterate 3 exact rfl); (first | exact rfl | exact backs_no); (focus ((repeat' first | exact args_nil | apply args_d | (apply args_p; exact rfl; exact rfl) | exact toD_d rfl | exact toD_ptr rfl rfl | exact rfl); done)); exact ho; (first | (focus ((repeat' first | (with_reducible apply noPar_set) | ((with_reducible apply noPar_puto); exact rfl) | (with_reducible apply noPar_kill) | exact rfl); done)) | exact rfl)) | ((with_reducible apply WR.c_ws (f := 377) (fn := Code.f377)); (iterate 3 exact rfl); (focus ((repeat' first | exact args_nil | apply args_d | (apply args_p; exact rfl; exact rfl) | exact toD_d rfl | exact toD_ptr rfl rfl | exact rfl); done)); exact g1; (focus ((repeat' first | exact backs_no | (apply backs_p; exact rfl; exact rfl; exact (by first | exact IsLawn.len (by assumption) | exact rfl)) | exact rfl); done)); dsimp only [insertAll]) | ((with_reducible apply WR.c_ws (f := 377) (fn := Code.f377)); (iterate 3 exact rfl); (focus ((repeat' first | exact args_nil | apply args_d | (apply args_p; exact rfl; exact rfl) | exact toD_d rfl | exact toD_ptr rfl rfl | exact rfl); done)); exact g2; (focus ((repeat' first | exact backs_no | (apply backs_p; exact rfl; exact rfl; exact (by first | exact IsLawn.len (by assumption) | exact rfl)) | exact rfl); done)); dsimp only [insertAll]) | ((with_reducible apply WR.c_o (f := 60) (fn := Code.f60)); (iterate 3 exact rfl); (first | exact rfl | exact backs_no); (focus ((repeat' first | exact args_nil | apply args_d | (apply args_p; exact rfl; exact rfl) | exact toD_d rfl | exact toD_ptr rfl rfl | exact rfl); done)); exact l01All_gives lw (by omega); (first | (focus ((repeat' first | (with_reducible apply noPar_set) | ((with_reducible apply noPar_puto); exact rfl) | (with_reducible apply noPar_kill) | exact rfl); done)) | exact rfl)) | ((with_reducible first | apply WR.mv | apply WR.bu); exact rfl; exact rfl) | ((with_reducible apply WR.cv); exact rfl; exact rfl; (first | exact i64_in _ (by omega) | exact i8_in _ (by omega))) | ((with_reducible apply WR.ad); (iterate 3 exact rfl); (first | exact i64_in _ (by omega) | exact i8_in _ (by omega))) | ((with_reducible apply WR.al); exact rfl; (first | (focus ((repeat' first | (with_reducible apply noPar_set) | ((with_reducible apply noPar_puto); exact rfl) | (with_reducible apply noPar_kill) | exact rfl); done)) | exact rfl)) | (with_reducible first | apply WR.nil | refine andThen_n ?_ | refine W.seq ?_ | refine W.region ?_ | refine W.block ?_) | ((with_reducible apply WR.st); (iterate 3 exact rfl); exact storeAll (by first | exact IsLawn.len (by assumption) | exact rfl) (by first | exact IsLawn.len (by assumption) | exact rfl))
  have hpw := allC_ix (w := 1 + r1) (h := 1 + r2) (by omega)
  have hof : ∀ q, ofKind (1 + r1) (1 + r2) q 0 = (allC (1 + r1) (1 + r2)).filter fun c => decide (q (ix c) = 0) := fun _ => rfl
  generalize allC (1 + r1) (1 + r2) = A at hA hmem hpw hof ⊢
  (refine (?_ : W _ (Code.loop _) _ _))
  (refine W.loopM [2, 3, 4, 5, 6] [2, 3, 23] [11, 31] (fun ((k, n, sd, q, gr) : (Nat) × (Nat) × (Int) × (Nat → Int) × (Int)) => (A.length - k : Nat)) (fun ((k, n, sd, q, gr) : (Nat) × (Nat) × (Int) × (Nat → Int) × (Int)) => (k ≤ A.length ∧ n ≤ 2 + k ∧ kindsOk (1 + r1) (1 + r2) q ∧ 0 ≤ gr ∧ gr ≤ k ∧ gr ≤ 7 ∧ (cntG q (A.take k) : Int) = gr : Prop)) (fun z : (Nat) × (Nat) × (Int) × (Nat → Int) × (Int) => match z with | (k, n, sd, q, gr) => [(7, .a (.d (.s (.int .i64 gr)))), (8, .a (.d (.s (.int .i64 (k : Nat)))))]) (fun z : (Nat) × (Nat) × (Int) × (Nat → Int) × (Int) => match z with | (k, n, sd, q, gr) => [(13, .flat false (srcC i n sd)), (5, .flat false (lwn (1 + r1) (1 + r2) q))]) (0, n2, s2, fun _ => 0, 0) (⟨by omega, by omega, hk0, by omega, by omega, by omega, by simp [cntG]⟩) ⟨rfl, rfl, trivial⟩ ⟨rfl, rfl, trivial⟩ ⟨npb, npb, trivial⟩ ?_)
  rintro ⟨k, n, sd, q, gr⟩ σ hP hN; dsimp only [setL, putL] at hP ⊢; obtain ⟨n11, hN⟩ := hN; obtain ⟨n31, hN⟩ := hN
  obtain ⟨hk, hn', hq, hg0, hgk, hg7, hgc⟩ := hP
  by_cases hka : k < A.length
  · obtain ⟨r, n5, s5, hr, c5, g5⟩ := among_gives i n sd [0, 0, 0, 1, 3] (by omega) hl (by simp)
    have hc := hmem _ (gC_mem (l := A) (k := k) hka)
    simp only [Has] at hc
    have hcs := fun v => cntG_set (q := q) hpw hka v
    have hr3 : r = 0 ∨ r = 1 ∨ r = 3 := by simp at hr; omega
    rcases hr3 with rfl | rfl | rfl
    · repeat' first | ((with_reducible apply WR.c_ws (f := 399) (fn := Code.f399)); (iterate 3 exact rfl); (focus ((repeat' first | exact args_nil | apply args_d | (apply args_p; exact rfl; exact rfl) | exact toD_slX rfl rfl (by first | assumption | exact rfl) | exact rfl); done)); exact g5; (focus ((repeat' first | exact backs_no | (apply backs_p; exact rfl; exact rfl; exact (by first | assumption | exact rfl)) | exact rfl); done)); dsimp only [insertAll]) | ((with_reducible apply WH.st); (iterate 3 exact rfl); exact stLw (by omega); exact rfl; exact rfl) | ((with_reducible first | apply WR.mv | apply WR.pk | apply WR.le); exact rfl; exact rfl) | ((with_reducible apply WH.ld); (iterate 3 exact rfl); (first | exact ldCx (by first | omega) | exact ldCy (by first | omega)); exact rfl) | ((with_reducible first | apply WH.fa | apply WH.mv | apply WR.eql | apply WR.lss); iterate 3 exact rfl) | ((with_reducible apply WR.ad); (iterate 3 exact rfl); (first | exact i64_in _ (by omega) | assumption | exact u8_in _ (by omega))) | ((with_reducible first | apply WH.ia | apply WH.isn); (iterate 3 exact rfl); omega; exact rfl) | (with_reducible first | apply WR.nil | refine andThen_n ?_ | refine inB_n ?_ | refine W.seq ?_ | refine W.region ?_ | refine W.skip ?_ | refine W.block ?_ | apply WH.nil | refine W.draw ?_) | ((with_reducible apply W.condT); exact rfl) | ((with_reducible apply W.condF); exact rfl) | (intro hb; try (exfalso; omega)) | ((with_reducible apply WR.off); exact rfl) | ((with_reducible apply WR.bs); exact rfl; exact rfl; (first | assumption | exact rfl)) | ((with_reducible apply WH.cv); exact rfl; exact rfl; (first | exact i64_in _ (by omega) | assumption | exact u8_in _ (by omega)))
      · (refine W.nxt (k + 1, n5, s5, gset q (10 * (gC A k).2.toNat + (gC A k).1.toNat) 3, gr) (by first | omega | (dsimp only; omega)) ?_ ⟨rfl, rfl, trivial⟩ ⟨rfl, rfl, trivial⟩ ⟨rfl, rfl, rfl, rfl, rfl, trivial⟩ ⟨rfl, rfl, rfl, trivial⟩ ⟨npb, npb, trivial⟩); (try dsimp only)
        exact ⟨by omega, by omega, hq.set (by omega) (by omega) (by omega), by omega, by omega, by omega, by rw [hcs]; simp only [Int.reduceEq, if_false, if_true]; omega⟩
      · (refine W.nxt (k + 1, n5, s5, gset q (10 * (gC A k).2.toNat + (gC A k).1.toNat) 0, gr + 1) (by first | omega | (dsimp only; omega)) ?_ ⟨rfl, rfl, trivial⟩ ⟨rfl, rfl, trivial⟩ ⟨rfl, rfl, rfl, rfl, rfl, trivial⟩ ⟨rfl, rfl, rfl, trivial⟩ ⟨npb, npb, trivial⟩); (try dsimp only)
        exact ⟨by omega, by omega, hq.set (by omega) (by omega) (by omega), by omega, by omega, by omega, by rw [hcs]; simp only [Int.reduceEq, if_false, if_true]; omega⟩
    · repeat' first | ((with_reducible apply WR.c_ws (f := 399) (fn := Code.f399)); (iterate 3 exact rfl); (focus ((repeat' first | exact args_nil | apply args_d | (apply args_p; exact rfl; exact rfl) | exact toD_slX rfl rfl (by first | assumption | exact rfl) | exact rfl); done)); exact g5; (focus ((repeat' first | exact backs_no | (apply backs_p; exact rfl; exact rfl; exact (by first | assumption | exact rfl)) | exact rfl); done)); dsimp only [insertAll]) | ((with_reducible apply WH.st); (iterate 3 exact rfl); exact stLw (by omega); exact rfl; exact rfl) | ((with_reducible first | apply WR.mv | apply WR.pk | apply WR.le); exact rfl; exact rfl) | ((with_reducible apply WH.ld); (iterate 3 exact rfl); (first | exact ldCx (by first | omega) | exact ldCy (by first | omega)); exact rfl) | ((with_reducible first | apply WH.fa | apply WH.mv | apply WR.eql | apply WR.lss); iterate 3 exact rfl) | ((with_reducible apply WR.ad); (iterate 3 exact rfl); (first | exact i64_in _ (by omega) | assumption | exact u8_in _ (by omega))) | ((with_reducible first | apply WH.ia | apply WH.isn); (iterate 3 exact rfl); omega; exact rfl) | (with_reducible first | apply WR.nil | refine andThen_n ?_ | refine inB_n ?_ | refine W.seq ?_ | refine W.region ?_ | refine W.skip ?_ | refine W.block ?_ | apply WH.nil | refine W.draw ?_) | ((with_reducible apply W.condT); exact rfl) | ((with_reducible apply W.condF); exact rfl) | (intro hb; try (exfalso; omega)) | ((with_reducible apply WR.off); exact rfl) | ((with_reducible apply WR.bs); exact rfl; exact rfl; (first | assumption | exact rfl)) | ((with_reducible apply WH.cv); exact rfl; exact rfl; (first | exact i64_in _ (by omega) | assumption | exact u8_in _ (by omega)))
      all_goals
        (refine W.nxt (k + 1, n5, s5, gset q (10 * (gC A k).2.toNat + (gC A k).1.toNat) 1, gr) (by first | omega | (dsimp only; omega)) ?_ ⟨rfl, rfl, trivial⟩ ⟨rfl, rfl, trivial⟩ ⟨rfl, rfl, rfl, rfl, rfl, trivial⟩ ⟨rfl, rfl, rfl, trivial⟩ ⟨npb, npb, trivial⟩); (try dsimp only)
        exact ⟨by omega, by omega, hq.set (by omega) (by omega) (by omega), by omega, by omega, by omega, by rw [hcs]; simp only [Int.reduceEq, if_false, if_true]; omega⟩
    · repeat' first | ((with_reducible apply WR.c_ws (f := 399) (fn := Code.f399)); (iterate 3 exact rfl); (focus ((repeat' first | exact args_nil | apply args_d | (apply args_p; exact rfl; exact rfl) | exact toD_slX rfl rfl (by first | assumption | exact rfl) | exact rfl); done)); exact g5; (focus ((repeat' first | exact backs_no | (apply backs_p; exact rfl; exact rfl; exact (by first | assumption | exact rfl)) | exact rfl); done)); dsimp only [insertAll]) | ((with_reducible apply WH.st); (iterate 3 exact rfl); exact stLw (by omega); exact rfl; exact rfl) | ((with_reducible first | apply WR.mv | apply WR.pk | apply WR.le); exact rfl; exact rfl) | ((with_reducible apply WH.ld); (iterate 3 exact rfl); (first | exact ldCx (by first | omega) | exact ldCy (by first | omega)); exact rfl) | ((with_reducible first | apply WH.fa | apply WH.mv | apply WR.eql | apply WR.lss); iterate 3 exact rfl) | ((with_reducible apply WR.ad); (iterate 3 exact rfl); (first | exact i64_in _ (by omega) | assumption | exact u8_in _ (by omega))) | ((with_reducible first | apply WH.ia | apply WH.isn); (iterate 3 exact rfl); omega; exact rfl) | (with_reducible first | apply WR.nil | refine andThen_n ?_ | refine inB_n ?_ | refine W.seq ?_ | refine W.region ?_ | refine W.skip ?_ | refine W.block ?_ | apply WH.nil | refine W.draw ?_) | ((with_reducible apply W.condT); exact rfl) | ((with_reducible apply W.condF); exact rfl) | (intro hb; try (exfalso; omega)) | ((with_reducible apply WR.off); exact rfl) | ((with_reducible apply WR.bs); exact rfl; exact rfl; (first | assumption | exact rfl)) | ((with_reducible apply WH.cv); exact rfl; exact rfl; (first | exact i64_in _ (by omega) | assumption | exact u8_in _ (by omega)))
      all_goals
        (refine W.nxt (k + 1, n5, s5, gset q (10 * (gC A k).2.toNat + (gC A k).1.toNat) 3, gr) (by first | omega | (dsimp only; omega)) ?_ ⟨rfl, rfl, trivial⟩ ⟨rfl, rfl, trivial⟩ ⟨rfl, rfl, rfl, rfl, rfl, trivial⟩ ⟨rfl, rfl, rfl, trivial⟩ ⟨npb, npb, trivial⟩); (try dsimp only)
        exact ⟨by omega, by omega, hq.set (by omega) (by omega) (by omega), by omega, by omega, by omega, by rw [hcs]; simp only [Int.reduceEq, if_false, if_true]; omega⟩
  · have lq := isLwn (1 + r1) (1 + r2) q (by omega) (by omega) (fun k hk => by have := hq k hk; simp only [cellOk] at this; omega)
    obtain ⟨u, n6, s6, u1, _, u3, u4, g6⟩ := pick_gives i n sd (1 + r1) (by omega) hl (by omega)
    obtain ⟨v, n7, s7, v1, _, v3, v4, g7⟩ := pick_gives i n6 s6 (1 + r2) (by omega) hl (by omega)
    have hu := u3 (by omega)
    have hv := v3 (by omega)
    have hlen0 : cntG q A ≤ 7 := by
      rw [List.take_of_length_le (by omega)] at hgc; omega
    have hlen : (ofKind (1 + r1) (1 + r2) q 0).length ≤ 7 := by rw [hof]; exact hlen0
    have hopn := l01Open_gives lq u v (by omega)
    have hH : Has (1 + r1) (1 + r2) u v := by simp only [Has]; omega
    repeat' first | ((with_reducible apply WR.c_ws (f := 377) (fn := Code.f377)); (iterate 3 exact rfl); (focus ((repeat' first | exact args_nil | apply args_d | (apply args_p; exact rfl; exact rfl) | exact toD_d rfl | exact toD_ptr rfl rfl | exact rfl); done)); exact g6; (focus ((repeat' first | exact backs_no | (apply backs_p; exact rfl; exact rfl; exact (by first | exact IsLawn.len (by assumption) | assumption | exact rfl)) | exact rfl); done)); dsimp only [insertAll]) | ((with_reducible apply WR.c_ws (f := 377) (fn := Code.f377)); (iterate 3 exact rfl); (focus ((repeat' first | exact args_nil | apply args_d | (apply args_p; exact rfl; exact rfl) | exact toD_d rfl | exact toD_ptr rfl rfl | exact rfl); done)); exact g7; (focus ((repeat' first | exact backs_no | (apply backs_p; exact rfl; exact rfl; exact (by first | exact IsLawn.len (by assumption) | assumption | exact rfl)) | exact rfl); done)); dsimp only [insertAll]) | ((with_reducible apply WR.c_p (f := 72) (fn := Code.f72)); (iterate 3 exact rfl); (first | exact rfl | exact backs_no); (focus ((repeat' first | exact args_nil | apply args_d | (apply args_p; exact rfl; exact rfl) | exact toD_d rfl | exact toD_ptr rfl rfl | exact rfl); done)); exact hopn) | ((with_reducible apply WH.st); (iterate 3 exact rfl); exact stLw (by omega); exact rfl; exact rfl) | ((with_reducible first | apply WR.mv | apply WR.fa | apply WR.un | apply WR.le); exact rfl; exact rfl) | ((with_reducible apply WR.cv); exact rfl; exact rfl; (first | exact i64_in _ (by omega) | assumption | exact i8_in _ (by omega))) | ((with_reducible apply WH.ld); (iterate 3 exact rfl); (first | exact ld2 | exact lawn_w (by assumption) | exact lawn_h (by assumption) | exact loadC_all (IsLawn.len (by assumption))); exact rfl) | ((with_reducible first | apply WH.lx | apply WH.fa | apply WR.bC | apply WR.lss); iterate 3 exact rfl) | ((with_reducible apply WR.al); exact rfl; (first | assumption | exact rfl)) | ((with_reducible apply WH.ia); (iterate 3 exact rfl); omega; exact rfl) | ((with_reducible apply WH.st); (iterate 3 exact rfl); exact st2; exact rfl; exact rfl) | ((with_reducible apply WH.st); (iterate 3 exact rfl); exact storeAll (by first | exact IsLawn.len (by assumption) | assumption | exact rfl) (by first | exact IsLawn.len (by assumption) | assumption | exact rfl); exact rfl; exact rfl) | ((with_reducible apply WR.ld); (iterate 3 exact rfl); (first | exact ld2 | exact lawn_w (by assumption) | exact lawn_h (by assumption) | exact loadC_all (IsLawn.len (by assumption)))) | (with_reducible first | apply WR.nil | refine andThen_n ?_ | refine andThen_x ?_ | refine inB_x ?_ | refine W.seq ?_ | refine W.region ?_ | refine W.skip ?_ | refine W.ret ?_ | refine W.exit ?_ | apply WH.nil | refine W.draw ?_) | ((with_reducible apply W.condT); exact rfl) | ((with_reducible apply W.condF); exact rfl) | (intro hb; try (exfalso; omega)) | ((with_reducible apply WR.st); (iterate 3 exact rfl); exact st2)
    · apply DoneP.mk
      · repeat' first | ((with_reducible apply Done.f); (intro hh hh2; exact (nomatch hh2)); (focus ((repeat' first | exact all_nil | apply all_cons | exact res_cell rfl rfl (by first | exact IsLawn.len (by assumption) | exact rfl) | exact rfl); done)); (focus ((repeat' first | exact all_nil | apply all_cons | exact retOf_a rfl | exact rfl); done)); exact rfl; (focus ((repeat' first | exact outs_nil | apply outs_d | exact rfl); done)))
        rfl
      · exact ⟨q, u, v, hq, ⟨hH, by assumption⟩, hlen, rfl⟩
    · apply DoneP.mk
      · repeat' first | ((with_reducible apply Done.f); (intro hh hh2; exact (nomatch hh2)); (focus ((repeat' first | exact all_nil | apply all_cons | exact res_cell rfl rfl (by first | exact rfl) | exact rfl); done)); (focus ((repeat' first | exact all_nil | apply all_cons | exact retOf_a rfl | exact rfl); done)); exact rfl; (focus ((repeat' first | exact outs_nil | apply outs_d | exact rfl); done)))
        rfl
      · refine ⟨gset q (10 * v.toNat + u.toNat) 3, u, v, hq.set (by omega) (by omega) (by omega), ⟨hH, .inr ?_⟩, ?_, rfl⟩
        · simp [gset]
        · rw [hof]; exact Nat.le_trans (cntG_le _ A) hlen0
end Go.DM

/- The law of lawns, ways and weeds: what is known of the way that is drawn is so (for FnTop). -/
set_option maxHeartbeats 4000000
namespace Go.DM
variable [Tok]
open Go.IntWalk
variable {w h : Int} {g : Nat → Int} {cs : List S}
theorem sidesA_pos : ∀ (L : List Cel) (f : Nat → Int), (∀ j, 0 ≤ f j) → ∀ j, 0 ≤ L.foldl (fun f c k => f k + sides w h g c k) f j
  | [], f, hf, j => hf j
  | c :: r, f, hf, j => by
    rw [List.foldl_cons]
    refine sidesA_pos r _ (fun k => ?_) j
    have h1 := hf k
    have h2 := (sides_b (w := w) (h := h) (g := g) c k).1
    omega
theorem fin_way (l : IsLawn w h g cs) (hL : LawnOk w h g) (wb : 1 ≤ w ∧ w ≤ 4) (hb : 1 ≤ h ∧ h ≤ 3) {c : Cel} (hO : Opn w h g c.1 c.2) (hG : (ofKind w h g 0).length ≤ 7) {s : List UInt8} (hl : Lets s) (hn : s.length ≤ 19) (hs : Safe w h g s c) (sm : Gives G 382 [.d (.s (.tok 1))] ⟨[.agg cs, .agg [.int .i8 c.1, .int .i8 c.2]], []⟩) (wy : Gives G 383 [.d (.s (.tok 0)), aa cs, ac c.1 c.2] ⟨[.s (.str s)], []⟩) :
    ∃ sh n4 b, FinWay cs c s sh n4 b := by
  have h12 := allC_12 wb hb
  have hB : (those w h fun c => Opn w h g c.1 c.2).length ≤ 16 := Nat.le_trans (List.length_filter_le ..) (by omega)
  have hB2 : (ofKind w h g 0).length + (ofKind w h g 3).length ≤ 16 := Nat.le_trans (kinds_two (g := g) (allC w h)) (by omega)
  have h48 := shortest_gives l hL c hO (by omega) hB
  have h49 := shortestS_gives l hL c hO (by omega) hB2
  have hg := gone_safe hL hl (by omega) hs
  have hth := trk_has (gone_zero hg).2
  have hH := hO.1
  simp only [Has] at hH
  have hx : InB c := by unfold InB; omega
  have h18 := isWhole_gives l c s
  have h17 := isWholeS_gives l c hx s
  rw [← left_mown ⟨by omega, by omega⟩ hth] at h17
  rw [hg] at h18 h17
  have hwm := whole_mask (w := w) (h := h) (g := g) (by omega) hs
  have nd : (ofKind w h g 0).Nodup := (allC_nodup (h := h) (by omega)).filter _
  have hgo := goes_way (w := w) (h := h) (g := g) (L := ofKind w h g 0) (a := (c, bitC (ofKind w h g 0) c)) hl hs .zero
  rw [Nat.zero_add] at hgo
  have hleast : ∀ sh, shortW w h g (ofKind w h g 0) c = some sh → maskL (ofKind w h g 0) (bitC (ofKind w h g 0) c) c s = 2 ^ (ofKind w h g 0).length - 1 → sh.length ≤ s.length := fun sh e hm =>
    srch_least (goal := AllM (ofKind w h g 0).length) hgo hm _ _ _ (QInv.first ..) rfl e
  have hnone : shortW w h g (ofKind w h g 0) c = none → ¬ maskL (ofKind w h g 0) (bitC (ofKind w h g 0) c) c s = 2 ^ (ofKind w h g 0).length - 1 := fun e =>
    srch_none (goal := AllM (ofKind w h g 0).length) hgo (Good := SInv w h g (ofKind w h g 0)) (N := 51200) (fun Q x gd hx => by rw [exN_four]; exact (SInv.exN nd gd ⟨(gd.fine x hx).2, gd.len x hx⟩ 4).1) (fun Q gd => gd.bound ⟨by omega, by omega⟩ (by omega)) _ _ _ (QInv.first ..) (SInv.first nd hO) rfl rfl e
  generalize shortW w h g (ofKind w h g 0) c = R at h48 h49 hleast hnone
  have e18 : decide ((0 : Int) = 0 ∧ (leftL w h g (trk s c s.length)).length = 0) = decide ((leftL w h g (trk s c s.length)).length = 0) := by simp
  rw [e18] at h18 h17
  by_cases hz : (leftL w h g (trk s c s.length)).length = 0
  · have hm := hwm.1 hz
    rw [decide_eq_true hz] at h18 h17
    cases R with
    | none => exact absurd hm (hnone rfl)
    | some sh => exact ⟨sh, 0, true, h48, h49, h18, h17, hn, ⟨w, h, g, l⟩, sm, wy, .inl ⟨rfl, rfl, hleast sh rfl hm⟩⟩
  · rw [decide_eq_false hz] at h18 h17
    cases R with
    | none => exact ⟨[], 6, false, h48, h49, h18, h17, hn, ⟨w, h, g, l⟩, sm, wy, .inr (.inr ⟨rfl, rfl⟩)⟩
    | some sh => exact ⟨sh, 0, false, h48, h49, h18, h17, hn, ⟨w, h, g, l⟩, sm, wy, .inr (.inl ⟨rfl, rfl⟩)⟩
theorem fin_in (l : IsLawn w h g cs) (ok : LawnOk w h g) (wb : 1 ≤ w ∧ w ≤ 6) (hb : 1 ≤ h ∧ h ≤ 6) {q : Nat → Int} (good : WGood w h g q) {n0 : Int} {k : Nat} {oth : Nat → Int} (nb : 0 ≤ n0 ∧ n0 ≤ 2) (kb : k ≤ 2) (ob : ∀ j, 0 ≤ oth j ∧ oth j < h)
    (big : Gives G 381 [.d (.s (.tok 0)), .d (.s (.tok 1))] (rb false)) (lawn : Gives G 403 [.d (.s (.tok 0))] ⟨[.agg cs], []⟩) (weeds : Gives G 404 [.d (.s (.tok 1)), aa cs] ⟨[.agg (wR q)], []⟩)
    (a0 : Gives G 406 [.d (.s (.tok 1)), ai .i64 0, ai .i64 3] (ri .i64 n0)) (a1 : Gives G 406 [.d (.s (.tok 1)), ai .i64 1, ai .i64 3] (ri .i64 (k : Nat))) (ao : ∀ j : Nat, j ≤ 2 → Gives G 406 [.d (.s (.tok 0)), ai .i64 (j : Nat), ai .i64 h] (ri .i64 (oth j))) :
    FinIn w h g cs (runsL w h g (allC w h)) (ofKind w h g 0).length (sidesA w h g (ofKind w h g 0)) q n0 k oth := by
  have hal := allC_len (w := w) (h := h) (by omega)
  refine ⟨l, ok, wb, hb, good, nb, kb, ob, big, lawn, runsOf_gives l ok, runsOfS_gives l ok, Nat.le_trans (runsL_len _) hal, runsL_b (by omega), runsL_sum (by omega), Nat.le_trans (List.length_filter_le ..) hal, countKind_gives l ok, sidesOf_gives l ok, sidesOfS_gives l ok, ?_, ?_, weeds, a0, a1, ao⟩
  · exact sidesA_sum (fun k hk => (ok.2.2 k hk).1) (by omega) _
  · exact sidesA_pos _ _ fun _ => by simp
end Go.DM

/- The law of lawns, ways and weeds (FnTop). -/
set_option maxHeartbeats 4000000
namespace Go.DM
variable [Tok]
open Go.IntWalk
theorem law_Top (u0 : (Tok.dat 0).length ≤ 9223372036854775807) (u1 : (Tok.dat 1).length ≤ 9223372036854775807) : Gives G 441 [.d (.s (.tok 0)), .d (.s (.tok 1))] (rb true) := by
  have hbig := a2LongB_gives 0 1 u0 u1
  by_cases b0 : 3000 < (Tok.dat 0).length ∨ 3000 < (Tok.dat 1).length
  · rw [decide_eq_true b0] at hbig
    refine Gives.by rfl rfl (W.seq ?_)
    repeat' first | ((with_reducible apply WR.c_s (f := 381) (fn := Code.f381)); (iterate 3 exact rfl); exact rfl; (focus ((repeat' first | exact args_nil | apply args_d | exact toD_d rfl | exact all_nil | apply all_cons | exact rfl); done)); exact hbig) | ((with_reducible apply WR.mv); exact rfl; exact rfl) | (with_reducible first | apply WR.nil | refine andThen_n ?_ | refine andThen_r ?_ | refine W.seq ?_ | refine W.region ?_ | refine W.ret ?_) | ((with_reducible apply W.condT); exact rfl) | ((with_reducible apply Done.f); (intro hh hh2; exact (nomatch hh2)); (focus ((repeat' first | exact all_nil | apply all_cons | exact res_tmp rfl | exact rfl); done)); (focus ((repeat' first | exact all_nil | apply all_cons | exact retOf_s rfl | exact rfl); done)); exact rfl; (focus ((repeat' first | exact outs_nil | apply outs_d | exact rfl); done)))
    rfl
  rw [decide_eq_false b0] at hbig
  obtain ⟨w, h, g, hw, hh, hk, lawn⟩ := a2Lawn_gives 0 (by omega)
  have l : IsLawn w h g (lwn w h g) := lwn_is hw hh hk
  have hL : LawnOk w h g := lwn_ok hw hh hk
  generalize lwn w h g = cs at lawn l
  obtain ⟨q, hq, weeds⟩ := a2Weeds_gives l hL 1 (by omega)
  have v0 := atV_b 1 0 (n := 3) (by omega)
  have v1 := atV_b 1 1 (n := 3) (by omega)
  have e1 : ((atV 1 1 3).toNat : Int) = atV 1 1 3 := by omega
  have a1 := a2At_gives 1 1 3 (by omega) (by omega) (by omega)
  rw [← e1] at a1
  have T := fin_in l hL hw hh hq (n0 := atV 1 0 3) (k := (atV 1 1 3).toNat) (oth := fun j => atV 0 j h) (by omega) (by omega) (fun j => atV_b 0 j hh.1) hbig lawn weeds (a2At_gives 1 0 3 (by omega) (by omega) (by omega)) a1 (fun j hj => a2At_gives 0 j h (by omega) (by omega) (by omega))
  obtain ⟨ws, hs, gs, x, y, hws, hhs, hks, hO, hG, sm⟩ := a2smallG_gives 1 (by omega)
  have lz : IsLawn ws hs gs (lwn ws hs gs) := lwn_is (by omega) (by omega) hks
  have hLz : LawnOk ws hs gs := lwn_ok (by omega) (by omega) hks
  generalize lwn ws hs gs = cz at sm lz
  obtain ⟨s, hlt, hsl, hsf, wy⟩ := a2way_gives lz ⟨by omega, by omega⟩ (x, y) hO 0 (by omega)
  obtain ⟨sh, n4, b, U⟩ := fin_way lz hLz hws hhs (c := (x, y)) hO hG hlt hsl hsf sm wy
  exact fin_main T U
end Go.DM
