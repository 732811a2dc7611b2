/- Stripes of a way: both sides. -/
import Derived.Test.YtadlffkjghjciaaGreatDoorK380Beside
import Derived.Test.YtadlffkjghjciaaGreatDoorK380RowsText
import Derived.Test.YtadlffkjghjciaaGreatDoorK380Gone
set_option linter.unusedSectionVars false
set_option linter.unusedSimpArgs false
set_option linter.unusedVariables false
set_option maxHeartbeats 4000000
namespace Go.DM
variable [Tok]
open Go.IntWalk
def letN (w h : Int) (g : Nat → Int) (T : List Cel) (s : List UInt8) (c : Cel) : Nat → UInt8
  | 0 => 46
  | i + 1 => if gC T i = c ∧ Is w h g 0 c.1 c.2 then (if 0 < i then s.getD (i - 1) 0 else 111) else letN w h g T s c i
variable {w h : Int} {g : Nat → Int} {cs : List S}
theorem letN_hit {T : List Cel} {s : List UInt8} {c : Cel} {i : Nat} (h1 : gC T i = c) (h2 : Is w h g 0 c.1 c.2) : letN w h g T s c (i + 1) = if 0 < i then s.getD (i - 1) 0 else 111 := if_pos ⟨h1, h2⟩
theorem letN_miss {T : List Cel} {s : List UInt8} {c : Cel} {i : Nat} (hn : ¬ (gC T i = c ∧ Is w h g 0 c.1 c.2)) : letN w h g T s c (i + 1) = letN w h g T s c i := if_neg hn
theorem strip_gives (l : IsLawn w h g cs) (hs : w ≤ 10 ∧ h ≤ 10) (T : List Cel) (s : List UInt8) (hT : T.length = s.length + 1) (hsl : s.length ≤ 200) (u v : Int) :
    Gives G 308 [ac u v, .d (.refd (.sl T.length 2 (encC T))), .d (.ref cs), .d (.ref [.str s])] (ri .u8 (((letN w h g T s (u, v) T.length).toNat : Nat) : Int)) := by
  refine Gives.by rfl rfl (W.seq ?_)
  repeat' first | ((with_reducible apply WR.mv); exact rfl; exact rfl) | ((with_reducible apply WR.lx); exact rfl; exact rfl) | ((with_reducible apply WR.nil)) | (with_reducible refine andThen_n ?_) | (with_reducible refine W.seq ?_) | (with_reducible refine W.region ?_) | (with_reducible refine W.block ?_) | ((with_reducible apply WR.bx); exact rfl; exact rfl; exact (by first | exact rfl); (exact rfl)) | ((with_reducible apply WR.le); exact rfl; exact rfl)
  (refine (?_ : W _ (Code.loop _) _ _))
  (refine W.loopM [2, 3, 4, 9, 10] [4] [8] (fun zz : (Nat) × (Int) => match zz with | (i, X) => (T.length - i : Nat)) (fun zz : (Nat) × (Int) => match zz with | (i, X) => (i ≤ T.length ∧ X = (((letN w h g T s (u, v) i).toNat : Nat) : Int) : Prop)) (fun zz : (Nat) × (Int) => match zz with | (i, X) => [(6, .a (.d (.s (.int .u8 X)))), (11, .a (.d (.s (.int .i64 (i : Nat)))))]) (fun zz : (Nat) × (Int) => match zz with | (i, X) => []) (0, 46) (⟨by omega, rfl⟩) ⟨rfl, rfl, trivial⟩ trivial ⟨np, trivial⟩ ?_)
  rintro ⟨i, X⟩ σ hP hN; dsimp only [setL, putL] at hP ⊢; obtain ⟨n8, hN⟩ := hN
  obtain ⟨hi, hX⟩ := hP
  by_cases hil : i < T.length
  · repeat' first | ((with_reducible apply WR.c_p (f := 32) (fn := Code.f32)); exact rfl; exact rfl; exact rfl; (exact rfl); (focus ((repeat' first | exact args_nil | apply args_d | exact toD_d rfl | exact rfl); done)); exact grass_gives (by assumption) _ _ (by omega)) | ((with_reducible apply WR.mv); exact rfl; exact rfl) | ((with_reducible apply WR.ld); exact rfl; exact rfl; exact rfl; (first | exact ld2 | exact loadC_all (IsLawn.len (by assumption)) | exact ldCd (by first | omega))) | ((with_reducible apply WR.ldd); exact rfl; exact rfl; (first | exact ld2 | exact loadC_all (IsLawn.len (by assumption)) | exact ldCd (by first | omega))) | ((with_reducible apply WR.ldr); exact rfl; exact rfl; (first | exact ld2 | exact loadC_all (IsLawn.len (by assumption)) | exact ldCd (by first | omega))) | ((with_reducible apply WR.lx); exact rfl; exact rfl) | ((with_reducible apply WR.nil)) | (with_reducible refine andThen_n ?_) | (with_reducible refine inB_n ?_) | (with_reducible refine W.seq ?_) | (with_reducible refine W.region ?_) | (with_reducible refine W.skip ?_) | (with_reducible refine W.block ?_) | ((with_reducible apply W.condT); exact rfl) | ((with_reducible apply W.condF); exact rfl) | (intro hb; try (exfalso; omega)) | ((with_reducible apply WR.off); exact rfl) | ((with_reducible apply WR.ist); exact rfl; exact rfl; exact rfl; (first | omega)) | ((with_reducible apply WR.lss); exact rfl; exact rfl; exact rfl) | ((with_reducible apply WR.gtr); exact rfl; exact rfl; exact rfl) | ((with_reducible apply WR.en); exact rfl; exact rfl; exact rfl) | ((with_reducible apply WR.ad); exact rfl; exact rfl; exact rfl; (first | exact i64_in _ (by omega) | assumption)) | ((with_reducible apply WR.sb); exact rfl; exact rfl; exact rfl; (first | exact i64_in _ (by omega) | assumption)) | ((with_reducible apply WR.idn); exact rfl; exact rfl; exact rfl; omega; (first | exact Nat.le_of_eq (encC_length _).symm)) | ((with_reducible apply WR.un); exact rfl; exact rfl) | ((with_reducible apply WR.pk); exact rfl; exact rfl) | ((with_reducible apply WR.al); exact rfl; (first | exact rfl | assumption)) | ((with_reducible apply WR.st); exact rfl; exact rfl; exact rfl; exact st2)
    · rename_i hne
      (refine W.nxt ((i + 1, X)) (by first | omega | (dsimp only; omega)) ?_ ⟨rfl, rfl, trivial⟩ trivial ⟨rfl, rfl, rfl, rfl, rfl, trivial⟩ ⟨rfl, trivial⟩ ⟨np, trivial⟩); (try dsimp only)
      refine ⟨by omega, ?_⟩
      rw [letN_miss (fun hh => (by assumption : ¬ ((gC T i).1 = u ∧ (gC T i).2 = v)) ⟨congrArg Prod.fst hh.1, congrArg Prod.snd hh.1⟩)]; exact hX
    · rename_i h1 h2
      (refine W.nxt ((i + 1, gB s ((i : Int) - 1).toNat)) (by first | omega | (dsimp only; omega)) ?_ ⟨rfl, rfl, trivial⟩ trivial ⟨rfl, rfl, rfl, rfl, rfl, trivial⟩ ⟨rfl, trivial⟩ ⟨np, trivial⟩); (try dsimp only)
      refine ⟨by omega, ?_⟩
      rw [letN_hit (Prod.ext h1.1 h1.2) h2, if_pos (by omega), show ((i : Int) - 1).toNat = i - 1 by omega]; rfl
    · rename_i h1 h2
      (refine W.nxt ((i + 1, 111)) (by first | omega | (dsimp only; omega)) ?_ ⟨rfl, rfl, trivial⟩ trivial ⟨rfl, rfl, rfl, rfl, rfl, trivial⟩ ⟨rfl, trivial⟩ ⟨np, trivial⟩); (try dsimp only)
      refine ⟨by omega, ?_⟩
      rw [letN_hit (Prod.ext h1.1 h1.2) h2, if_neg (by omega)]; rfl
    · (refine W.nxt ((i + 1, X)) (by first | omega | (dsimp only; omega)) ?_ ⟨rfl, rfl, trivial⟩ trivial ⟨rfl, rfl, rfl, rfl, rfl, trivial⟩ ⟨rfl, trivial⟩ ⟨np, trivial⟩); (try dsimp only)
      refine ⟨by omega, ?_⟩
      rw [letN_miss (fun hh => (by assumption : ¬ Is w h g 0 u v) hh.2)]; exact hX
  · obtain rfl : i = T.length := by omega
    repeat' first | ((with_reducible apply WR.mv); exact rfl; exact rfl) | ((with_reducible apply WR.nil)) | (with_reducible refine andThen_n ?_) | (with_reducible refine andThen_x ?_) | (with_reducible refine inB_x ?_) | (with_reducible refine W.seq ?_) | (with_reducible refine W.region ?_) | (with_reducible refine W.ret ?_) | (with_reducible refine W.exit ?_) | ((with_reducible apply W.condF); exact rfl) | ((with_reducible apply Done.f); (intro hh hh2; exact (nomatch hh2)); (focus ((repeat' first | exact all_nil | apply all_cons | exact res_tmp rfl); done)); (focus ((repeat' first | exact all_nil | apply all_cons | exact retOf_s rfl); done)); exact rfl; (focus ((repeat' first | exact outs_nil | apply outs_d); done))) | (intro hb; try (exfalso; omega)) | ((with_reducible apply WR.lss); exact rfl; exact rfl; exact rfl)
    rw [hX]; rfl
def letS (w h : Int) (g : Nat → Int) (T : List Cel) (s : List UInt8) (c : Cel) : UInt8 := letN w h g T s c T.length
theorem let_strip (l : IsLawn w h g cs) (hs : w ≤ 10 ∧ h ≤ 10) (T : List Cel) (s : List UInt8) (hT : T.length = s.length + 1) (hsl : s.length ≤ 200) :
    LetC (.clo 308 [] [.refd (.sl T.length 2 (encC T)), .ref cs, .ref [.str s]]) (letS w h g T s) (fun _ => True) :=
  ⟨308, Code.f308, _, _, rfl, rfl, rfl, fun c _ => strip_gives l hs T s hT hsl c.1 c.2⟩
theorem letN_ne {T : List Cel} {s : List UInt8} {c : Cel} (hs : ∀ j, s.getD j 0 ≠ 10) : ∀ n, letN w h g T s c n ≠ 10
  | 0 => by simp [letN]
  | i + 1 => by
    unfold letN
    split
    · split
      · exact hs _
      · decide
    · exact letN_ne hs i
theorem trimSuffix_gives (s p : List UInt8) (hs : s.length ≤ 2000000) : Gives G 309 [.d (.s (.str s)), .d (.s (.str p))] ⟨[.s (.str (Lib.trimSuffix s p))], []⟩ :=
  Gives.given rfl rfl (by
    simp only [trimSuffixO]
    rw [if_pos hs])
theorem split_gives' (s : List UInt8) (c : UInt8) (hs : s.length ≤ 2000000) : Gives G 238 [.d (.s (.str s)), .d (.s (.str [c]))] ⟨[.own (pieces c s).length 1 (encS (pieces c s))], []⟩ :=
  Gives.given rfl rfl (by
    simp only [splitO]
    rw [if_pos hs, encS_map])
theorem trim_last (s : List UInt8) (c : UInt8) : Lib.trimSuffix (s ++ [c]) [c] = s := by
  have : Lib.hasSuffix (s ++ [c]) [c] = true := by
    simp [Lib.hasSuffix]
  rw [Lib.trimSuffix, if_pos this]
  simp
theorem pieces_none {c : UInt8} : ∀ {s : List UInt8}, c ∉ s → pieces c s = [s]
  | [], _ => rfl
  | b :: r, h => by
    have hb : b ≠ c := fun e => h (by rw [e]; exact List.mem_cons_self ..)
    have ih := pieces_none (s := r) (fun hh => h (List.mem_cons_of_mem _ hh))
    obtain ⟨p, ps, h1, h2⟩ := pieces_miss hb r
    rw [ih] at h1; cases h1
    rw [h2]
def rowsOf (L : Cel → UInt8) (W H : Nat) : List (List UInt8) := (List.range H).map (rowL L W)
theorem rows_back {L : Cel → UInt8} {W H : Nat} (hW : 0 < W) (hH : 0 < H) (hL : ∀ c, L c ≠ 10) : pieces 10 (Lib.trimSuffix (textC (W : Int) L (allC (W : Int) (H : Int))) [10]) = rowsOf L W H := by
  obtain ⟨K, rfl⟩ : ∃ K, H = K + 1 := ⟨H - 1, by omega⟩
  have h10 : ∀ y, (10 : UInt8) ∉ rowL L W y := fun y hh => by
    obtain ⟨x, _, hx⟩ := List.mem_map.1 hh
    exact hL _ hx
  rw [textC_all _ _ _ hW, List.range_succ, List.flatMap_append]
  have e : (([K] : List Nat).flatMap fun y => rowL L W y ++ [10]) = rowL L W K ++ [10] := by simp
  have e2 : (List.range K).flatMap (fun y => rowL L W y ++ [10]) = ((List.range K).map (rowL L W)).flatMap (· ++ [10]) := by rw [List.flatMap_map]
  rw [e, ← List.append_assoc, trim_last, e2, pieces_lines _ _ (fun l hl => by
    obtain ⟨y, _, rfl⟩ := List.mem_map.1 hl
    exact h10 y), pieces_none (h10 K), rowsOf, List.range_succ, List.map_append]
  rfl
theorem progStrip_gives (l : IsLawn w h g cs) (c : Cel) (s : List UInt8) :
    Gives G 290 [aa cs, ac c.1 c.2, .d (.s (.str s))] (if goneC w h g c s = 0 then ⟨[.own (rowsOf (letS w h g (trk s c s.length) s) w.toNat h.toNat).length 1 (encS (rowsOf (letS w h g (trk s c s.length) s) w.toNat h.toNat)), .s (.int .i64 0)], []⟩ else ⟨[.s .nils, .s (.int .i64 (goneC w h g c s))], []⟩) := by
  have hw := walked_gives l c s
  by_cases h0 : goneC w h g c s = 0
  · obtain ⟨ht, hO⟩ := gone_zero h0
    obtain ⟨hs, hH, hl, hlt⟩ := told_ok ht
    have hlen := trk_len s c s.length
    rw [if_pos h0] at hw ⊢
    obtain ⟨W0, rfl⟩ : ∃ n : Nat, w = n := ⟨w.toNat, by omega⟩
    obtain ⟨H0, rfl⟩ : ∃ n : Nat, h = n := ⟨h.toNat, by omega⟩
    generalize trk s c s.length = T at hw hlen ⊢
    have hR := rows_gives l (by omega) (let_strip l (by omega) T s hlen hl) (fun _ _ => trivial)
    have hL : ∀ e, letS W0 H0 g T s e ≠ 10 := fun e => letN_ne (fun j => by
      by_cases hj : j < s.length
      · have := hlt j hj
        intro e; rw [gB, e] at this; revert this; decide
      · simp [List.getD_eq_getElem?_getD, List.getElem?_eq_none (show s.length ≤ j by omega)]) _
    have hlenT := textC_len (W0 : Int) (letS W0 H0 g T s) (allC (W0 : Int) (H0 : Int))
    have hal := allC_len (w := (W0 : Int)) (h := (H0 : Int)) (by omega)
    have hts := trimSuffix_gives (textC (W0 : Int) (letS W0 H0 g T s) (allC (W0 : Int) (H0 : Int))) [10] (by omega)
    have hsp := split_gives' (Lib.trimSuffix (textC (W0 : Int) (letS W0 H0 g T s) (allC (W0 : Int) (H0 : Int))) [10]) 10 (by
      unfold Lib.trimSuffix; split
      · rw [List.length_take]; omega
      · omega)
    rw [rows_back (by omega) (by omega) hL] at hsp
    rw [Int.toNat_natCast, Int.toNat_natCast]
    refine Gives.by rfl rfl (W.seq ?_)
    repeat' first | ((with_reducible apply WR.c_os (f := 81) (fn := Code.f81)); exact rfl; exact rfl; exact rfl; (exact rfl); (focus ((repeat' first | exact args_nil | apply args_d | exact toD_d rfl | exact toD_ptr rfl rfl | exact toD_slC rfl rfl (by first | exact rfl) | (apply toD_clo; exact rfl) | exact all_nil | apply all_cons | (apply toDA_var; exact rfl) | exact rfl); done)); exact hw; (exact rfl)) | ((with_reducible apply WR.c_s (f := 244) (fn := Code.f244)); exact rfl; exact rfl; exact rfl; (exact rfl); (focus ((repeat' first | exact args_nil | apply args_d | exact toD_d rfl | exact toD_ptr rfl rfl | exact toD_slC rfl rfl (by first | exact rfl) | (apply toD_clo; exact rfl) | exact all_nil | apply all_cons | (apply toDA_var; exact rfl) | exact rfl); done)); exact hR) | ((with_reducible apply WR.c_s (f := 309) (fn := Code.f309)); exact rfl; exact rfl; exact rfl; (exact rfl); (focus ((repeat' first | exact args_nil | apply args_d | exact toD_d rfl | exact toD_ptr rfl rfl | exact toD_slC rfl rfl (by first | exact rfl) | (apply toD_clo; exact rfl) | exact all_nil | apply all_cons | (apply toDA_var; exact rfl) | exact rfl); done)); exact hts) | ((with_reducible apply WR.c_o (f := 238) (fn := Code.f238)); exact rfl; exact rfl; exact rfl; (exact rfl); (focus ((repeat' first | exact args_nil | apply args_d | exact toD_d rfl | exact toD_ptr rfl rfl | exact toD_slC rfl rfl (by first | exact rfl) | (apply toD_clo; exact rfl) | exact all_nil | apply all_cons | (apply toDA_var; exact rfl) | exact rfl); done)); exact hsp; (exact rfl)) | ((with_reducible apply WR.mv); exact rfl; exact rfl) | ((with_reducible apply WR.mvt); exact rfl; exact rfl) | ((with_reducible apply WR.ld); exact rfl; exact rfl; exact rfl; (first | exact ld2 | exact loadC_all (IsLawn.len (by assumption)))) | ((with_reducible apply WR.lx); exact rfl; exact rfl) | ((with_reducible apply WR.bx); exact rfl; exact rfl; exact (by first | exact (encS_length _).trans (Nat.mul_one _).symm | exact IsLawn.len (by assumption) | exact rfl); (exact rfl)) | ((with_reducible apply WR.bo); exact rfl; exact rfl; (exact rfl)) | ((with_reducible apply WR.nil)) | (with_reducible refine andThen_n ?_) | (with_reducible refine W.seq ?_) | (with_reducible refine W.region ?_) | (with_reducible refine W.skip ?_) | (with_reducible refine W.ret ?_) | ((with_reducible apply W.condF); exact rfl) | ((with_reducible apply Done.f); (intro hh hh2; exact (nomatch hh2)); (focus ((repeat' first | exact all_nil | apply all_cons | exact res_tmp rfl | exact rfl); done)); (focus ((repeat' first | exact all_nil | apply all_cons | exact retOf_s rfl | exact retOf_o rfl rfl (by first | exact (encS_length _).trans (Nat.mul_one _).symm | exact IsLawn.len (by assumption) | exact rfl) | exact rfl); done)); exact rfl; (focus ((repeat' first | exact outs_nil | apply outs_d | exact rfl); done))) | (intro hb; try (exfalso; omega)) | ((with_reducible apply WR.ex); exact rfl; exact rfl) | ((with_reducible apply WR.neq); exact rfl; exact rfl; exact rfl) | ((with_reducible apply WR.mf); exact rfl; exact rfl) | ((with_reducible apply WR.al); exact rfl; (exact rfl)) | ((with_reducible apply WR.st); exact rfl; exact rfl; exact rfl; exact rfl)
    rfl
  · rw [if_neg h0] at hw ⊢
    refine Gives.by rfl rfl (W.seq ?_)
    repeat' first | ((with_reducible apply WR.c_ss (f := 81) (fn := Code.f81)); exact rfl; exact rfl; exact rfl; (exact rfl); (focus ((repeat' first | exact args_nil | apply args_d | exact toD_d rfl | exact all_nil | apply all_cons | exact rfl); done)); exact hw) | ((with_reducible apply WR.mv); exact rfl; exact rfl) | ((with_reducible apply WR.mvt); exact rfl; exact rfl) | ((with_reducible apply WR.ld); exact rfl; exact rfl; exact rfl; (first | exact ld2 | exact loadC_all (IsLawn.len (by assumption)))) | ((with_reducible apply WR.lx); exact rfl; exact rfl) | ((with_reducible apply WR.bx); exact rfl; exact rfl; exact (by first | exact IsLawn.len (by assumption) | exact rfl); (exact rfl)) | ((with_reducible apply WR.bo); exact rfl; exact rfl; (exact rfl)) | ((with_reducible apply WR.nil)) | (with_reducible refine andThen_n ?_) | (with_reducible refine andThen_r ?_) | (with_reducible refine W.seq ?_) | (with_reducible refine W.region ?_) | (with_reducible refine W.ret ?_) | ((with_reducible apply W.condT); exact rfl) | ((with_reducible apply Done.f); (intro hh hh2; exact (nomatch hh2)); (focus ((repeat' first | exact all_nil | apply all_cons | exact res_tmp rfl | exact rfl); done)); (focus ((repeat' first | exact all_nil | apply all_cons | exact retOf_s rfl | exact rfl); done)); exact rfl; (focus ((repeat' first | exact outs_nil | apply outs_d | exact rfl); done))) | (intro hb; try (exfalso; omega)) | ((with_reducible apply WR.ex); exact rfl; exact rfl) | ((with_reducible apply WR.neq); exact rfl; exact rfl; exact rfl) | ((with_reducible apply WR.al); exact rfl; (exact rfl)) | ((with_reducible apply WR.st); exact rfl; exact rfl; exact rfl; exact storeAll (by first | exact IsLawn.len (by assumption) | exact rfl) (by first | exact IsLawn.len (by assumption) | exact rfl))
    rfl
theorem rowL_succ (L : Cel → UInt8) (x y : Nat) : rowL L (x + 1) y = rowL L x y ++ [L ((x : Int), (y : Int))] := by simp [rowL, List.range_succ]
theorem specStrip_gives (l : IsLawn w h g cs) (c : Cel) (hx : InB c) (s : List UInt8) :
    Gives G 289 [aa cs, ac c.1 c.2, .d (.s (.str s))] (if goneC w h g c s = 0 then ⟨[.own (rowsOf (letS w h g (trk s c s.length) s) w.toNat h.toNat).length 1 (encS (rowsOf (letS w h g (trk s c s.length) s) w.toNat h.toNat)), .s (.int .i64 0)], []⟩ else ⟨[.own 0 1 (encS []), .s (.int .i64 (goneC w h g c s))], []⟩) := by
  have hw := l02Gone_gives l c hx s
  by_cases h0 : goneC w h g c s = 0
  · obtain ⟨ht, hO⟩ := gone_zero h0
    obtain ⟨hs, hH, hl, hlt⟩ := told_ok ht
    have hlen := trk_len s c s.length
    rw [if_pos h0] at hw ⊢
    obtain ⟨W0, rfl⟩ : ∃ n : Nat, w = n := ⟨w.toNat, by omega⟩
    obtain ⟨H0, rfl⟩ : ∃ n : Nat, h = n := ⟨h.toNat, by omega⟩
    have hlw := l.w; have hlh := l.h
    rw [Int.toNat_natCast, Int.toNat_natCast]
    generalize trk s c s.length = T at hw hlen ⊢
    generalize hLd : letS W0 H0 g T s = L
    have hL : ∀ e, L e = letN W0 H0 g T s e T.length := fun e => by rw [← hLd]; rfl
    refine Gives.by rfl rfl (W.seq ?_)
    repeat' first | ((with_reducible apply WR.c_os (f := 39) (fn := Code.f39)); exact rfl; exact rfl; exact rfl; (exact rfl); (focus ((repeat' first | exact args_nil | apply args_d | exact toD_d rfl | exact toD_ptr rfl rfl | exact rfl); done)); exact hw; (exact rfl)) | ((with_reducible apply WR.mv); exact rfl; exact rfl) | ((with_reducible apply WR.mvt); exact rfl; exact rfl) | ((with_reducible apply WR.bsS0); exact rfl; (exact rfl)) | ((with_reducible apply WR.ld); exact rfl; exact rfl; exact rfl; (first | exact ld2)) | ((with_reducible apply WR.nil)) | (with_reducible refine andThen_n ?_) | (with_reducible refine W.seq ?_) | (with_reducible refine W.region ?_) | (with_reducible refine W.skip ?_) | (with_reducible refine W.block ?_) | ((with_reducible apply W.condF); exact rfl) | (intro hb; try (exfalso; omega)) | ((with_reducible apply WR.bx); exact rfl; exact rfl; exact (by first | exact IsLawn.len (by assumption) | exact rfl); (exact rfl)) | ((with_reducible apply WR.ex); exact rfl; exact rfl) | ((with_reducible apply WR.neq); exact rfl; exact rfl; exact rfl)
    (refine (?_ : W _ (Code.loop _) _ _))
    (refine W.loopM [2, 3, 8] [3, 1020] [16, 72, 73] (fun zz : (Nat) × (List (List UInt8)) => match zz with | (y, out) => (H0 - y : Nat)) (fun zz : (Nat) × (List (List UInt8)) => match zz with | (y, out) => (y ≤ H0 ∧ out = (List.range y).map (rowL L W0) ∧ out.length = y : Prop)) (fun zz : (Nat) × (List (List UInt8)) => match zz with | (y, out) => [(10, .a (.sl 27 0 out.length 1)), (11, .a (.d (.s (.int .i8 (y : Nat)))))]) (fun zz : (Nat) × (List (List UInt8)) => match zz with | (y, out) => [(27, .flat false (encS out))]) (0, []) (⟨by omega, rfl, rfl⟩) ⟨rfl, rfl, trivial⟩ ⟨rfl, trivial⟩ ⟨np, np, np, trivial⟩ ?_)
    rintro ⟨y, out⟩ σ hP hN; dsimp only [setL, putL] at hP ⊢; obtain ⟨n16, hN⟩ := hN; obtain ⟨n72, hN⟩ := hN; obtain ⟨n73, hN⟩ := hN
    obtain ⟨hy, hout, hol⟩ := hP
    by_cases hyl : y < H0
    · repeat' first | ((with_reducible apply WR.mv); exact rfl; exact rfl) | ((with_reducible apply WR.lss); exact rfl; exact rfl; exact rfl) | ((with_reducible apply WR.ld); exact rfl; exact rfl; exact rfl; (first | exact lawn_h (by assumption))) | ((with_reducible apply WR.nil)) | (with_reducible refine andThen_n ?_) | (with_reducible refine W.seq ?_) | (with_reducible refine W.region ?_) | (with_reducible refine W.skip ?_) | (with_reducible refine W.block ?_) | ((with_reducible apply W.condT); exact rfl) | (intro hb; try (exfalso; omega)) | ((with_reducible apply WR.fa); exact rfl; exact rfl)
      (refine (?_ : W _ (Code.loop _) _ _))
      (refine W.loopM [2, 3, 8, 10, 11] [3, 27, 1020] [16, 72, 73] (fun zz : (Nat) × (List UInt8) => match zz with | (x, U) => (W0 - x : Nat)) (fun zz : (Nat) × (List UInt8) => match zz with | (x, U) => (x ≤ W0 ∧ U = rowL L x y ∧ U.length = x : Prop)) (fun zz : (Nat) × (List UInt8) => match zz with | (x, U) => [(12, .a (.d (.s (.str U)))), (13, .a (.d (.s (.int .i8 (x : Nat)))))]) (fun zz : (Nat) × (List UInt8) => match zz with | (x, U) => []) (0, []) (⟨by omega, rfl, rfl⟩) ⟨rfl, rfl, trivial⟩ trivial ⟨np, np, np, trivial⟩ ?_)
      rintro ⟨x, U⟩ σ hP hN; dsimp only [setL, putL] at hP ⊢; obtain ⟨n16, hN⟩ := hN; obtain ⟨n72, hN⟩ := hN; obtain ⟨n73, hN⟩ := hN
      obtain ⟨hx1, hU, hUl⟩ := hP
      by_cases hxl : x < W0
      · repeat' first | ((with_reducible apply WR.mv); exact rfl; exact rfl) | ((with_reducible apply WR.lss); exact rfl; exact rfl; exact rfl) | ((with_reducible apply WR.ld); exact rfl; exact rfl; exact rfl; (first | exact lawn_w (by assumption))) | ((with_reducible apply WR.nil)) | (with_reducible refine andThen_n ?_) | (with_reducible refine W.seq ?_) | (with_reducible refine W.region ?_) | (with_reducible refine W.skip ?_) | (with_reducible refine W.block ?_) | ((with_reducible apply W.condT); exact rfl) | (intro hb; try (exfalso; omega)) | ((with_reducible apply WR.fa); exact rfl; exact rfl)
        (refine (?_ : W _ (Code.loop _) _ _))
        (refine W.loopM [2, 3, 8, 10, 11, 12, 13] [3, 27, 1020] [16, 72, 73] (fun zz : (Nat) × (List UInt8) => match zz with | (i, X) => (T.length - i : Nat)) (fun zz : (Nat) × (List UInt8) => match zz with | (i, X) => (i ≤ T.length ∧ X = [letN W0 H0 g T s ((x : Int), (y : Int)) i] ∧ X.length = 1 : Prop)) (fun zz : (Nat) × (List UInt8) => match zz with | (i, X) => [(14, .a (.d (.s (.str X)))), (15, .a (.d (.s (.int .i64 (i : Nat)))))]) (fun zz : (Nat) × (List UInt8) => match zz with | (i, X) => []) (0, [46]) (⟨by omega, rfl, rfl⟩) ⟨rfl, rfl, trivial⟩ trivial ⟨np, np, np, trivial⟩ ?_)
        rintro ⟨i, X⟩ σ hP hN; dsimp only [setL, putL] at hP ⊢; obtain ⟨n16, hN⟩ := hN; obtain ⟨n72, hN⟩ := hN; obtain ⟨n73, hN⟩ := hN
        obtain ⟨hi, hX, hXl⟩ := hP
        by_cases hil : i < T.length
        · have hbd : 0 < i → ∀ m, bound (some (.a (.d (.s (.int .i64 ((i : Int) - 1)))))) m = some (i - 1) := fun h m => by
            show (if 0 ≤ ((i : Int) - 1) then some ((i : Int) - 1).toNat else none) = _
            rw [if_pos (by omega)]; congr 1; omega
          repeat' first | ((with_reducible apply WR.sst (l := i - 1) (h := i)); exact rfl; exact rfl; exact hbd (by omega) _; exact bound_str; exact ⟨by omega, by omega⟩) | ((with_reducible apply WH.c_s (f := 61) (fn := Code.f61)); exact rfl; exact rfl; exact rfl; (exact rfl); (focus ((repeat' first | exact args_nil | apply args_d | exact toD_d rfl | exact toD_ptr rfl rfl | exact rfl); done)); exact l01At_gives (by assumption) _ _ (by omega); exact rfl) | ((with_reducible apply WR.mv); exact rfl; exact rfl) | ((with_reducible apply WR.ad); exact rfl; exact rfl; exact rfl; (first | exact i64_in _ (by omega) | assumption)) | ((with_reducible apply WR.lss); exact rfl; exact rfl; exact rfl) | ((with_reducible apply WR.nil)) | (with_reducible refine andThen_n ?_) | (with_reducible refine andThen_x ?_) | (with_reducible refine inB_n ?_) | (with_reducible refine inB_x ?_) | (with_reducible refine W.seq ?_) | (with_reducible refine W.region ?_) | (with_reducible refine W.skip ?_) | (with_reducible refine W.exit ?_) | (with_reducible refine W.block ?_) | ((with_reducible apply W.condT); exact rfl) | ((with_reducible apply W.condF); exact rfl) | ((with_reducible apply WH.mv); exact rfl; exact rfl; exact rfl) | ((with_reducible apply WH.ld); exact rfl; exact rfl; exact rfl; (first | exact ld2 | exact ldC (by first | omega)); exact rfl) | ((with_reducible apply WH.nil)) | (with_reducible refine W.draw ?_) | (intro hb; try (exfalso; omega)) | ((with_reducible apply WH.off); exact rfl) | ((with_reducible apply WR.gtr); exact rfl; exact rfl; exact rfl) | ((with_reducible apply WR.sb); exact rfl; exact rfl; exact rfl; (first | exact i64_in _ (by omega) | assumption)) | ((with_reducible apply WR.bC); exact rfl; exact rfl; exact rfl) | ((with_reducible apply WR.le); exact rfl; exact rfl) | ((with_reducible apply WR.al); exact rfl; (first | exact rfl | assumption)) | ((with_reducible apply WR.st); exact rfl; exact rfl; exact rfl; exact st2) | ((with_reducible apply WH.neq); exact rfl; exact rfl; exact rfl) | ((with_reducible apply WH.en); exact rfl; exact rfl; exact rfl) | ((with_reducible apply WH.isn); exact rfl; exact rfl; exact rfl; omega; exact rfl) | ((with_reducible apply WH.pk); exact rfl; exact rfl; exact rfl)
          · rename_i hne
            (refine W.nxt ((i + 1, X)) (by first | omega | (dsimp only; omega)) ?_ ⟨rfl, rfl, trivial⟩ trivial ⟨rfl, rfl, rfl, rfl, rfl, rfl, rfl, trivial⟩ ⟨rfl, rfl, rfl, trivial⟩ ⟨np, np, np, trivial⟩); (try dsimp only)
            refine ⟨by omega, ?_, hXl⟩
            rw [letN_miss (fun hh => (by assumption : ¬ ((gC T i).1 = (x : Int) ∧ (gC T i).2 = (y : Int))) ⟨congrArg Prod.fst hh.1, congrArg Prod.snd hh.1⟩)]; exact hX
          · (refine W.nxt ((i + 1, X)) (by first | omega | (dsimp only; omega)) ?_ ⟨rfl, rfl, trivial⟩ trivial ⟨rfl, rfl, rfl, rfl, rfl, rfl, rfl, trivial⟩ ⟨rfl, rfl, rfl, trivial⟩ ⟨np, np, np, trivial⟩); (try dsimp only)
            refine ⟨by omega, ?_, hXl⟩
            rw [letN_miss (fun hh => (by assumption : ¬ g (10 * (y : Int).toNat + (x : Int).toNat) = 0) hh.2.2)]; exact hX
          · rename_i h1 h2
            (refine W.nxt ((i + 1, (s.drop (i - 1)).take (i - (i - 1)))) (by first | omega | (dsimp only; omega)) ?_ ⟨rfl, rfl, trivial⟩ trivial ⟨rfl, rfl, rfl, rfl, rfl, rfl, rfl, trivial⟩ ⟨rfl, rfl, rfl, trivial⟩ ⟨np, np, np, trivial⟩); (try dsimp only)
            have e : (s.drop (i - 1)).take (i - (i - 1)) = [s.getD (i - 1) 0] := by
              rw [drop_at (by omega), show i - (i - 1) = 1 by omega]; rfl
            rw [e]
            refine ⟨by omega, ?_, rfl⟩
            rw [letN_hit (Prod.ext h1.1 h1.2) ⟨⟨by show 0 ≤ (x : Int); omega, by show (x : Int) < W0; omega, by show 0 ≤ (y : Int); omega, by show (y : Int) < H0; omega⟩, h2⟩, if_pos (by omega)]
          · rename_i h1 h2
            (refine W.nxt ((i + 1, [111])) (by first | omega | (dsimp only; omega)) ?_ ⟨rfl, rfl, trivial⟩ trivial ⟨rfl, rfl, rfl, rfl, rfl, rfl, rfl, trivial⟩ ⟨rfl, rfl, rfl, trivial⟩ ⟨np, np, np, trivial⟩); (try dsimp only)
            refine ⟨by omega, ?_, rfl⟩
            rw [letN_hit (Prod.ext h1.1 h1.2) ⟨⟨by show 0 ≤ (x : Int); omega, by show (x : Int) < W0; omega, by show 0 ≤ (y : Int); omega, by show (y : Int) < H0; omega⟩, h2⟩, if_neg (by omega)]
        · obtain rfl : i = T.length := by omega
          repeat' first | ((with_reducible apply WR.mv); exact rfl; exact rfl) | ((with_reducible apply WR.sad); exact rfl; exact rfl; exact rfl; (first | omega)) | ((with_reducible apply WR.ad); exact rfl; exact rfl; exact rfl; (first | exact i8_in _ (by omega))) | ((with_reducible apply WR.lss); exact rfl; exact rfl; exact rfl) | ((with_reducible apply WR.nil)) | (with_reducible refine andThen_n ?_) | (with_reducible refine andThen_x ?_) | (with_reducible refine inB_n ?_) | (with_reducible refine inB_x ?_) | (with_reducible refine W.seq ?_) | (with_reducible refine W.region ?_) | (with_reducible refine W.exit ?_) | ((with_reducible apply W.condF); exact rfl) | (intro hb; try (exfalso; omega)) | ((with_reducible apply WR.le); exact rfl; exact rfl)
          (refine W.nxt ((x + 1, U ++ X)) (by first | omega | (dsimp only; omega)) ?_ ⟨rfl, rfl, trivial⟩ trivial ⟨rfl, rfl, rfl, rfl, rfl, trivial⟩ ⟨rfl, rfl, rfl, trivial⟩ ⟨np, np, np, trivial⟩); (try dsimp only)
          refine ⟨by omega, ?_, by rw [List.length_append]; omega⟩
          rw [hU, hX, rowL_succ, hL]
      · obtain rfl : x = W0 := by omega
        repeat' first | ((with_reducible apply WR.mv); exact rfl; exact rfl) | ((with_reducible apply WR.ad); exact rfl; exact rfl; exact rfl; (first | assumption | exact i8_in _ (by omega))) | ((with_reducible apply WR.bsS1); exact rfl; exact rfl; (first | assumption)) | ((with_reducible apply WR.lss); exact rfl; exact rfl; exact rfl) | ((with_reducible apply WR.ld); exact rfl; exact rfl; exact rfl; (first | exact lawn_w (by assumption))) | ((with_reducible apply WR.nil)) | (with_reducible refine andThen_n ?_) | (with_reducible refine andThen_x ?_) | (with_reducible refine inB_n ?_) | (with_reducible refine inB_x ?_) | (with_reducible refine W.seq ?_) | (with_reducible refine W.region ?_) | (with_reducible refine W.exit ?_) | ((with_reducible apply W.condF); exact rfl) | (intro hb; try (exfalso; omega)) | ((with_reducible apply WR.fa); exact rfl; exact rfl) | ((with_reducible apply WR.apS); exact rfl; exact rfl; exact rfl; exact rfl; (first | omega))
        (refine W.nxt ((y + 1, out ++ [U])) (by first | omega | (dsimp only; omega)) ?_ ⟨rfl, rfl, trivial⟩ ⟨rfl, trivial⟩ ⟨rfl, rfl, rfl, trivial⟩ ⟨rfl, rfl, trivial⟩ ⟨np, np, np, trivial⟩); (try dsimp only)
        refine ⟨by omega, ?_, by rw [List.length_append, List.length_singleton]; omega⟩
        rw [hout, hU, List.range_succ, List.map_append]; rfl
    · obtain rfl : y = H0 := by omega
      have e : rowsOf L W0 y = out := hout.symm
      rw [e]
      repeat' first | ((with_reducible apply WR.mv); exact rfl; exact rfl) | ((with_reducible apply WR.lss); exact rfl; exact rfl; exact rfl) | ((with_reducible apply WR.ld); exact rfl; exact rfl; exact rfl; (first | exact lawn_h (by assumption))) | ((with_reducible apply WR.nil)) | (with_reducible refine andThen_n ?_) | (with_reducible refine andThen_x ?_) | (with_reducible refine inB_x ?_) | (with_reducible refine W.seq ?_) | (with_reducible refine W.region ?_) | (with_reducible refine W.ret ?_) | (with_reducible refine W.exit ?_) | ((with_reducible apply W.condF); exact rfl) | ((with_reducible apply Done.f); (intro hh hh2; exact (nomatch hh2)); (focus ((repeat' first | exact all_nil | apply all_cons | exact res_tmp rfl); done)); (focus ((repeat' first | exact all_nil | apply all_cons | exact retOf_s rfl | exact retOf_o rfl rfl (by first | exact (encS_length _).trans (Nat.mul_one _).symm)); done)); exact rfl; (focus ((repeat' first | exact outs_nil | apply outs_d); done))) | (intro hb; try (exfalso; omega)) | ((with_reducible apply WR.fa); exact rfl; exact rfl)
      rfl
  · rw [if_neg h0] at hw ⊢
    refine Gives.by rfl rfl (W.seq ?_)
    repeat' first | ((with_reducible apply WR.c_os (f := 39) (fn := Code.f39)); exact rfl; exact rfl; exact rfl; (exact rfl); (focus ((repeat' first | exact args_nil | apply args_d | exact toD_d rfl | exact toD_ptr rfl rfl | exact all_nil | apply all_cons | exact rfl); done)); exact hw; (exact rfl)) | ((with_reducible apply WR.mv); exact rfl; exact rfl) | ((with_reducible apply WR.mvt); exact rfl; exact rfl) | ((with_reducible apply WR.bsS0); exact rfl; (exact rfl)) | ((with_reducible apply WR.ld); exact rfl; exact rfl; exact rfl; (first | exact ld2)) | ((with_reducible apply WR.nil)) | (with_reducible refine andThen_n ?_) | (with_reducible refine andThen_r ?_) | (with_reducible refine W.seq ?_) | (with_reducible refine W.region ?_) | (with_reducible refine W.ret ?_) | ((with_reducible apply W.condT); exact rfl) | ((with_reducible apply Done.f); (intro hh hh2; exact (nomatch hh2)); (focus ((repeat' first | exact all_nil | apply all_cons | exact res_tmp rfl | exact rfl); done)); (focus ((repeat' first | exact all_nil | apply all_cons | exact retOf_s rfl | exact retOf_o rfl rfl (by first | exact encS_length _ | exact IsLawn.len (by assumption) | exact rfl) | exact rfl); done)); exact rfl; (focus ((repeat' first | exact outs_nil | apply outs_d | exact rfl); done))) | (intro hb; try (exfalso; omega)) | ((with_reducible apply WR.bx); exact rfl; exact rfl; exact (by first | exact encS_length _ | exact IsLawn.len (by assumption) | exact rfl); (exact rfl)) | ((with_reducible apply WR.ex); exact rfl; exact rfl) | ((with_reducible apply WR.neq); exact rfl; exact rfl; exact rfl)
    rfl
end Go.DM
