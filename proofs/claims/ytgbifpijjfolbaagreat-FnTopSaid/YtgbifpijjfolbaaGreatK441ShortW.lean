/- The program's search of the shortest way: its parts (for FnTop). -/
import Derived.Test.YtgbifpijjfolbaaGreatK441MolesC
import Derived.Test.YtgbifpijjfolbaaGreatK441Way
set_option linter.all false
set_option maxHeartbeats 4000000
namespace Go.DM
variable [Tok]
open Go.IntWalk
variable {w h : Int} {g : Nat → Int} {cs : List S} {L : List Cel}
theorem open1_ok (hok : LawnOk w h g) {c : Cel} (hO : Opn w h g c.1 c.2) (l : IsLawn w h g cs) : Gives G 37 [aa cs, asl [c]] (ri .i64 0) := by
  have ho := openCode_gives l [c] (by simp)
  rwa [belowCode_zero.2 ⟨hok, by simp; exact hO.1, by simp; exact hO⟩] at ho
theorem wholeCode_gives (l : IsLawn w h g cs) (hok : LawnOk w h g) (c : Cel) (hO : Opn w h g c.1 c.2) (hA : (ofKind w h g 0).length ≤ 9) (hB : (those w h fun c => Opn w h g c.1 c.2).length ≤ 16) : Gives G 455 [aa cs, ac c.1 c.2] (ri .i64 0) := by
  have hs := hok.1
  have hs2 := hok.2.1
  have h0 := open1_ok hok hO l
  have h1 := those_gives l (by omega) (holds_grass l (by omega)) (fun _ _ => trivial)
  rw [those_grass] at h1
  have h2 := those_gives l (by omega) (holds_open l (by omega)) (fun _ _ => trivial)
  generalize (those w h fun c => Opn w h g c.1 c.2) = B at h2 hB
  generalize ofKind w h g 0 = A at h1 hA
  refine Gives.by rfl rfl (W.seq ?_)
  repeat' first | ((with_reducible apply WR.c_s (f := 37) (fn := Code.f37)); (iterate 3 exact rfl); exact rfl; (focus ((repeat' first | exact args_nil | apply args_d | exact toD_d rfl | exact toD_slC rfl rfl (by first | exact rfl) | (apply toD_clo; exact rfl) | exact all_nil | apply all_cons | exact rfl); done)); exact h0) | ((with_reducible apply WR.c_o (f := 31) (fn := Code.f31)); (iterate 3 exact rfl); exact rfl; (focus ((repeat' first | exact args_nil | apply args_d | exact toD_d rfl | exact toD_slC rfl rfl (by first | exact rfl) | (apply toD_clo; exact rfl) | exact all_nil | apply all_cons | exact rfl); done)); exact h1; (first | (focus ((repeat' first | (with_reducible apply noPar_set) | ((with_reducible apply noPar_puto); exact rfl) | (with_reducible apply noPar_kill) | exact rfl); done)) | exact rfl)) | ((with_reducible apply WR.c_o (f := 31) (fn := Code.f31)); (iterate 3 exact rfl); exact rfl; (focus ((repeat' first | exact args_nil | apply args_d | exact toD_d rfl | exact toD_slC rfl rfl (by first | exact rfl) | (apply toD_clo; exact rfl) | exact all_nil | apply all_cons | exact rfl); done)); exact h2; (first | (focus ((repeat' first | (with_reducible apply noPar_set) | ((with_reducible apply noPar_puto); exact rfl) | (with_reducible apply noPar_kill) | exact rfl); done)) | exact rfl)) | ((with_reducible first | apply WR.mv | apply WR.mf | apply WR.pk | apply WR.le); exact rfl; exact rfl) | ((with_reducible apply WR.ld); (iterate 3 exact rfl); (first | exact ld2 | exact loadC_all (IsLawn.len (by assumption)))) | (with_reducible first | apply WR.nil | refine andThen_n ?_ | refine W.seq ?_ | refine W.region ?_ | refine W.skip ?_ | refine W.ret ?_) | ((with_reducible apply W.condF); exact rfl) | ((with_reducible apply Done.f); (intro hh hh2; exact (nomatch hh2)); (focus ((repeat' first | exact all_nil | apply all_cons | exact res_tmp rfl | exact rfl); done)); (focus ((repeat' first | exact all_nil | apply all_cons | exact retOf_s rfl | exact rfl); done)); exact rfl; (focus ((repeat' first | exact outs_nil | apply outs_d | exact rfl); done))) | (intro hb; try (exfalso; omega)) | ((with_reducible first | apply WR.gtr | apply WR.eql); iterate 3 exact rfl) | ((with_reducible apply WR.bx); exact rfl; exact rfl; exact (by first | exact IsLawn.len (by assumption) | exact rfl); (first | (focus ((repeat' first | (with_reducible apply noPar_set) | ((with_reducible apply noPar_puto); exact rfl) | (with_reducible apply noPar_kill) | exact rfl); done)) | exact rfl)) | ((with_reducible apply WR.bs1); exact rfl; exact rfl; (first | (focus ((repeat' first | (with_reducible apply noPar_set) | ((with_reducible apply noPar_puto); exact rfl) | (with_reducible apply noPar_kill) | exact rfl); done)) | exact rfl))
  all_goals first
    | rfl
    | (exfalso; omega)
theorem bits_gives (l : IsLawn w h g cs) (hs : 0 ≤ w ∧ w ≤ 10 ∧ 0 ≤ h ∧ h ≤ 10) : Gives G 456 [aa cs] ⟨[.ownm KC (encM (numM (ofKind w h g 0) 0))], []⟩ := by
  have h1 := those_gives l (by omega) (holds_grass l (by omega)) (fun _ _ => trivial)
  rw [those_grass] at h1
  have nd : (ofKind w h g 0).Nodup := (allC_nodup (h := h) hs.1).filter _
  have hlen : (ofKind w h g 0).length ≤ 100 := Nat.le_trans (List.length_filter_le ..) (allC_len (w := w) (h := h) (by omega))
  generalize ofKind w h g 0 = A at h1 nd hlen ⊢
  refine Gives.by rfl rfl (W.seq ?_)
  repeat' first | ((with_reducible apply WR.c_o (f := 31) (fn := Code.f31)); (iterate 3 exact rfl); exact rfl; (focus ((repeat' first | exact args_nil | apply args_d | exact toD_d rfl | (apply toD_clo; exact rfl) | exact all_nil | apply all_cons | exact rfl); done)); exact h1; (first | (focus ((repeat' first | (with_reducible apply noPar_set) | ((with_reducible apply noPar_puto); exact rfl) | (with_reducible apply noPar_putm) | (with_reducible apply noPar_kill) | exact rfl); done)) | exact rfl)) | ((with_reducible apply WR.mkm); exact rfl; exact rfl) | ((with_reducible first | apply WR.mv | apply WR.mf | apply WR.le); exact rfl; exact rfl) | ((with_reducible apply WR.ld); (iterate 3 exact rfl); (exact loadC_all (IsLawn.len (by assumption)))) | (with_reducible first | apply WR.nil | refine andThen_n ?_ | refine W.seq ?_ | refine W.region ?_ | refine W.block ?_) | ((with_reducible apply WR.bx); exact rfl; exact rfl; exact (by first | exact IsLawn.len (by assumption) | exact rfl); (first | (focus ((repeat' first | (with_reducible apply noPar_set) | ((with_reducible apply noPar_puto); exact rfl) | (with_reducible apply noPar_putm) | (with_reducible apply noPar_kill) | exact rfl); done)) | exact rfl))
  (refine (?_ : W _ (Code.loop _) _ _))
  (refine W.loopM [3, 10, 11] [10] [5] (fun i : (Nat) => (A.length - i : Nat)) (fun i : (Nat) => (i ≤ A.length : Prop)) (fun i : (Nat) => [(12, .a (.d (.s (.int .i64 (i : Nat)))))]) (fun i : (Nat) => [(6, .map KC (encM (numM (A.take i) 0)))]) 0 (by omega) ⟨rfl, trivial⟩ ⟨rfl, trivial⟩ ⟨nm, trivial⟩ ?_)
  rintro i σ hP hN; dsimp only [setL, putL] at hP ⊢; obtain ⟨n5, hN⟩ := hN
  by_cases hil : i < A.length
  · have hnot : hasM (numM (A.take i) 0) ((gC A i).1, (gC A i).2) = false := by
      rw [numM_has, decide_eq_false_iff_not]
      intro hm
      obtain ⟨k, hk, e⟩ := List.getElem_of_mem hm
      rw [List.length_take] at hk
      rw [List.getElem_take] at e
      have h3 : A[k]? = some (gC A i) := by rw [List.getElem?_eq_getElem (by omega), e]
      have := nodup_inj nd h3 (gC_get hil)
      omega
    have hsn := numM_snoc (gC A i) (A.take i) 0
    have htk : A.take (i + 1) = A.take i ++ [gC A i] := by
      rw [List.take_add_one, gC_get hil]; rfl
    have hl2 : 0 + (A.take i).length = i := by rw [List.length_take]; omega
    rw [hl2] at hsn
    repeat' first | ((with_reducible apply WR.mputC hnot); iterate 5 exact rfl) | ((with_reducible apply WR.mv); exact rfl; exact rfl) | ((with_reducible apply WR.ld); (iterate 3 exact rfl); (first | exact ld2 | exact ldC (by first | omega))) | (with_reducible first | apply WR.nil | refine andThen_n ?_ | refine inB_n ?_ | refine W.seq ?_ | refine W.region ?_ | refine W.skip ?_ | refine W.block ?_) | ((with_reducible apply W.condT); exact rfl) | (intro hb; try (exfalso; omega)) | ((with_reducible apply WR.lss); iterate 3 exact rfl) | ((with_reducible apply WR.ad); (iterate 3 exact rfl); (first | exact i64_in _ (by omega) | assumption)) | ((with_reducible apply WR.isn); (iterate 3 exact rfl); omega) | ((with_reducible apply WR.al); exact rfl; (assumption)) | ((with_reducible apply WR.st); (iterate 3 exact rfl); exact st2)
    rw [show numM (A.take i) 0 ++ [(((gC A i).1, (gC A i).2), ((i : Nat) : Int))] = numM (A.take (i + 1)) 0 by rw [htk, hsn]]
    (refine W.nxt (i + 1) (by first | omega | (dsimp only; omega)) ?_ ⟨rfl, trivial⟩ ⟨rfl, trivial⟩ ⟨rfl, rfl, rfl, trivial⟩ ⟨rfl, trivial⟩ ⟨nm, trivial⟩); (try dsimp only)
    omega
  · repeat' first | ((with_reducible apply WR.mv); exact rfl; exact rfl) | (with_reducible first | apply WR.nil | refine andThen_n ?_ | refine andThen_x ?_ | refine inB_x ?_ | refine W.seq ?_ | refine W.region ?_ | refine W.ret ?_ | refine W.exit ?_) | ((with_reducible apply W.condF); exact rfl) | ((with_reducible apply Done.f); (intro hh hh2; exact (nomatch hh2)); (focus ((repeat' first | exact all_nil | apply all_cons | exact res_tmp rfl | exact rfl); done)); (focus ((repeat' first | exact all_nil | apply all_cons | exact rfl); done)); exact rfl; (focus ((repeat' first | exact outs_nil | apply outs_d | exact rfl); done))) | (intro hb; try (exfalso; omega)) | ((with_reducible apply WR.lss); iterate 3 exact rfl)
    rw [List.take_of_length_le (by omega)]
    exact rfl
theorem begin_gives (l : IsLawn w h g cs) (hL : L.length ≤ 9) (c : Cel) : Gives G 457 [aa cs, ac c.1 c.2, .d (.map KC (encM (numM L 0)))] ⟨[.agg (mowC (c, bitC L c))], []⟩ := by
  have hh := numM_has c L 0
  by_cases hm : c ∈ L
  · obtain ⟨k, h1, h2, h3⟩ := numM_cnt c L 0 hm
    rw [decide_eq_true hm] at hh
    have h4 : bitC L c = 2 ^ k := h3
    rw [h4]
    generalize numM L 0 = M at hh h1
    refine Gives.by rfl rfl (W.seq ?_)
    repeat' first | ((with_reducible apply WR.mgetT h1 hh); iterate 3 exact rfl) | ((with_reducible apply WR.shM); (iterate 3 exact rfl); omega) | ((with_reducible apply WR.mv); exact rfl; exact rfl) | ((with_reducible first | apply WR.mvt | apply WR.ex | apply WR.fa | apply WR.bu); exact rfl; exact rfl) | ((with_reducible apply WR.ld); (iterate 3 exact rfl); (first | exact ld2 | exact ldM4)) | ((with_reducible apply WR.st); (iterate 3 exact rfl); exact stM2) | (with_reducible first | apply WR.nil | refine andThen_n ?_ | refine W.seq ?_ | refine W.region ?_ | refine W.ret ?_) | ((with_reducible apply W.condT); exact rfl) | ((with_reducible apply Done.f); (intro hh hh2; exact (nomatch hh2)); (focus ((repeat' first | exact all_nil | apply all_cons | exact res_cell rfl rfl (by first | exact IsLawn.len (by assumption) | exact rfl) | exact rfl); done)); (focus ((repeat' first | exact all_nil | apply all_cons | exact retOf_a rfl | exact rfl); done)); exact rfl; (focus ((repeat' first | exact outs_nil | apply outs_d | exact rfl); done))) | ((with_reducible apply WR.bx); exact rfl; exact rfl; exact (by first | exact IsLawn.len (by assumption) | exact rfl); (first | (focus ((repeat' first | (with_reducible apply noPar_set) | ((with_reducible apply noPar_puto); exact rfl) | (with_reducible apply noPar_kill) | exact rfl); done)) | exact rfl)) | ((with_reducible apply WR.al); exact rfl; (first | (focus ((repeat' first | (with_reducible apply noPar_set) | ((with_reducible apply noPar_puto); exact rfl) | (with_reducible apply noPar_kill) | exact rfl); done)) | exact rfl))
    rfl
  · rw [decide_eq_false hm] at hh
    have h4 : bitC L c = 0 := bitF_not hm
    rw [h4]
    generalize numM L 0 = M at hh
    refine Gives.by rfl rfl (W.seq ?_)
    repeat' first | ((with_reducible apply WR.mgetT rfl hh); iterate 3 exact rfl) | ((with_reducible apply WR.mv); exact rfl; exact rfl) | ((with_reducible first | apply WR.mvt | apply WR.ex | apply WR.bu); exact rfl; exact rfl) | ((with_reducible apply WR.ld); (iterate 3 exact rfl); (first | exact ld2 | exact ldM4)) | ((with_reducible apply WR.st); (iterate 3 exact rfl); exact stM2) | (with_reducible first | apply WR.nil | refine andThen_n ?_ | refine W.seq ?_ | refine W.region ?_ | refine W.skip ?_ | refine W.ret ?_) | ((with_reducible apply W.condF); exact rfl) | ((with_reducible apply Done.f); (intro hh hh2; exact (nomatch hh2)); (focus ((repeat' first | exact all_nil | apply all_cons | exact res_cell rfl rfl (by first | exact IsLawn.len (by assumption) | exact rfl) | exact rfl); done)); (focus ((repeat' first | exact all_nil | apply all_cons | exact retOf_a rfl | exact rfl); done)); exact rfl; (focus ((repeat' first | exact outs_nil | apply outs_d | exact rfl); done))) | ((with_reducible apply WR.bx); exact rfl; exact rfl; exact (by first | exact IsLawn.len (by assumption) | exact rfl); (first | (focus ((repeat' first | (with_reducible apply noPar_set) | ((with_reducible apply noPar_puto); exact rfl) | (with_reducible apply noPar_kill) | exact rfl); done)) | exact rfl)) | ((with_reducible apply WR.al); exact rfl; (first | (focus ((repeat' first | (with_reducible apply noPar_set) | ((with_reducible apply noPar_puto); exact rfl) | (with_reducible apply noPar_kill) | exact rfl); done)) | exact rfl))
    rfl
set_option maxRecDepth 20000 in
theorem next_open (l : IsLawn w h g cs) (hs : w ≤ 10 ∧ h ≤ 10) (hL : L.length ≤ 9) (x : Mw) {j : Nat} (hj : j < 4) (hx : Has w h x.1.1 x.1.2) (hm : x.2 < 512) (hO : OpnS w h g x j) :
    Gives G 458 [aa cs, .d (.agg [.int .i8 x.1.1, .int .i8 x.1.2, .int .u8 0, .int .i64 (x.2 : Nat)]), ai .u8 (gB NW j), .d (.map KC (encM (numM L 0)))] ⟨[.agg [.int .i8 (yS L x j).1.1, .int .i8 (yS L x j).1.2, .int .u8 (gB NW j), .int .i64 ((yS L x j).2 : Nat)], .s (.bool true)], []⟩ := by
  have hgo := go1_gives NW j x.1 (by rw [lw_lt hj]; omega) (by simp only [Has] at hx; omega)
  rw [lw_lt hj] at hgo
  unfold OpnS at hO
  unfold yS
  have ho := open_gives l (nx x.1 j).1 (nx x.1 j).2 (.inl hs)
  rw [decide_eq_true hO] at ho
  generalize gB NW j = z at hgo
  generalize nx x.1 j = c at hgo ho hO ⊢
  have hh := numM_has c L 0
  by_cases hmm : c ∈ L
  · obtain ⟨k, h1, h2, h3⟩ := numM_cnt c L 0 hmm
    rw [decide_eq_true hmm] at hh
    have h4 : bitC L c = 2 ^ k := h3
    have h5 := pow_lt9 (k := k) (by omega)
    rw [h4]
    generalize numM L 0 = M at hh h1
    refine Gives.by rfl rfl (W.seq ?_)
    repeat' first | ((with_reducible apply WR.c_a (f := 117) (fn := Code.f117)); (iterate 3 exact rfl); exact rfl; (focus ((repeat' first | exact args_nil | apply args_d | exact toD_d rfl | exact all_nil | apply all_cons | exact rfl); done)); exact hgo) | ((with_reducible apply WR.c_s (f := 77) (fn := Code.f77)); (iterate 3 exact rfl); exact rfl; (focus ((repeat' first | exact args_nil | apply args_d | exact toD_d rfl | exact all_nil | apply all_cons | exact rfl); done)); exact ho) | ((with_reducible apply WR.mgetT h1 hh); iterate 3 exact rfl) | ((with_reducible apply WH.shM); (iterate 3 exact rfl); omega) | ((with_reducible apply WH.orM); (iterate 3 exact rfl); exact hm; exact h5) | ((with_reducible apply WR.mv); exact rfl; exact rfl) | ((with_reducible first | apply WR.mvt | apply WR.fa | apply WR.ex | apply WR.un); exact rfl; exact rfl) | ((with_reducible apply WR.ld); (iterate 3 exact rfl); (first | exact ld2 | exact ldM4 | exact loadC_all (IsLawn.len (by assumption)))) | ((with_reducible apply WR.st); (iterate 3 exact rfl); exact st2) | ((with_reducible apply WR.st); (iterate 3 exact rfl); exact stM0) | ((with_reducible apply WR.st); (iterate 3 exact rfl); exact stM2) | ((with_reducible apply WR.st); iterate 4 exact rfl) | (with_reducible first | apply WR.nil | refine andThen_n ?_ | refine W.seq ?_ | refine W.region ?_ | refine W.skip ?_ | refine W.ret ?_ | apply WH.nil | refine W.draw ?_) | ((with_reducible apply W.condT); exact rfl) | ((with_reducible apply W.condF); exact rfl) | ((with_reducible apply Done.f); (intro hh hh2; exact (nomatch hh2)); (focus ((repeat' first | exact all_nil | apply all_cons | exact res_tmp rfl | exact res_cell rfl rfl (by first | exact IsLawn.len (by assumption) | exact rfl) | exact rfl); done)); (focus ((repeat' first | exact all_nil | apply all_cons | exact retOf_s rfl | exact retOf_a rfl | exact rfl); done)); exact rfl; (focus ((repeat' first | exact outs_nil | apply outs_d | exact rfl); done))) | ((with_reducible apply WR.bx); exact rfl; exact rfl; exact (by first | exact IsLawn.len (by assumption) | exact rfl); (first | (focus ((repeat' first | (with_reducible apply noPar_set) | ((with_reducible apply noPar_puto); exact rfl) | (with_reducible apply noPar_kill) | exact rfl); done)) | exact rfl)) | ((with_reducible apply WR.al); exact rfl; (first | (focus ((repeat' first | (with_reducible apply noPar_set) | ((with_reducible apply noPar_puto); exact rfl) | (with_reducible apply noPar_kill) | exact rfl); done)) | exact rfl)) | ((with_reducible first | apply WH.fa | apply WH.mv | apply WH.lx); iterate 3 exact rfl) | ((with_reducible apply WH.st); (iterate 3 exact rfl); exact stM2; exact rfl; exact rfl)
    rfl
  · rw [decide_eq_false hmm] at hh
    have h4 : bitC L c = 0 := bitF_not hmm
    rw [h4, Nat.or_zero]
    generalize numM L 0 = M at hh
    refine Gives.by rfl rfl (W.seq ?_)
    repeat' first | ((with_reducible apply WR.c_a (f := 117) (fn := Code.f117)); (iterate 3 exact rfl); exact rfl; (focus ((repeat' first | exact args_nil | apply args_d | exact toD_d rfl | exact all_nil | apply all_cons | exact rfl); done)); exact hgo) | ((with_reducible apply WR.c_s (f := 77) (fn := Code.f77)); (iterate 3 exact rfl); exact rfl; (focus ((repeat' first | exact args_nil | apply args_d | exact toD_d rfl | exact all_nil | apply all_cons | exact rfl); done)); exact ho) | ((with_reducible apply WR.mgetT rfl hh); iterate 3 exact rfl) | ((with_reducible apply WR.mv); exact rfl; exact rfl) | ((with_reducible first | apply WR.mvt | apply WR.fa | apply WR.ex | apply WR.un); exact rfl; exact rfl) | ((with_reducible apply WR.ld); (iterate 3 exact rfl); (first | exact ld2 | exact ldM4 | exact loadC_all (IsLawn.len (by assumption)))) | ((with_reducible apply WR.st); (iterate 3 exact rfl); exact st2) | ((with_reducible apply WR.st); (iterate 3 exact rfl); exact stM0) | ((with_reducible apply WR.st); (iterate 3 exact rfl); exact stM2) | ((with_reducible apply WR.st); iterate 4 exact rfl) | (with_reducible first | apply WR.nil | refine andThen_n ?_ | refine W.seq ?_ | refine W.region ?_ | refine W.skip ?_ | refine W.ret ?_) | ((with_reducible apply W.condF); exact rfl) | ((with_reducible apply Done.f); (intro hh hh2; exact (nomatch hh2)); (focus ((repeat' first | exact all_nil | apply all_cons | exact res_tmp rfl | exact res_cell rfl rfl (by first | exact IsLawn.len (by assumption) | exact rfl) | exact rfl); done)); (focus ((repeat' first | exact all_nil | apply all_cons | exact retOf_s rfl | exact retOf_a rfl | exact rfl); done)); exact rfl; (focus ((repeat' first | exact outs_nil | apply outs_d | exact rfl); done))) | ((with_reducible apply WR.bx); exact rfl; exact rfl; exact (by first | exact IsLawn.len (by assumption) | exact rfl); (first | (focus ((repeat' first | (with_reducible apply noPar_set) | ((with_reducible apply noPar_puto); exact rfl) | (with_reducible apply noPar_kill) | exact rfl); done)) | exact rfl)) | ((with_reducible apply WR.al); exact rfl; (first | (focus ((repeat' first | (with_reducible apply noPar_set) | ((with_reducible apply noPar_puto); exact rfl) | (with_reducible apply noPar_kill) | exact rfl); done)) | exact rfl))
    rfl
theorem next_shut (l : IsLawn w h g cs) (hs : w ≤ 10 ∧ h ≤ 10) (x : Mw) {j : Nat} (hj : j < 4) (hx : Has w h x.1.1 x.1.2) (hO : ¬ OpnS w h g x j) {es : List (List S × List S)} :
    Gives G 458 [aa cs, .d (.agg [.int .i8 x.1.1, .int .i8 x.1.2, .int .u8 0, .int .i64 (x.2 : Nat)]), ai .u8 (gB NW j), .d (.map KC es)] ⟨[.agg [.int .i8 0, .int .i8 0, .int .u8 0, .int .i64 0], .s (.bool false)], []⟩ := by
  have hgo := go1_gives NW j x.1 (by rw [lw_lt hj]; omega) (by simp only [Has] at hx; omega)
  rw [lw_lt hj] at hgo
  unfold OpnS at hO
  have ho := open_gives l (nx x.1 j).1 (nx x.1 j).2 (.inl hs)
  rw [decide_eq_false hO] at ho
  generalize gB NW j = z at hgo
  generalize nx x.1 j = c at hgo ho hO ⊢
  refine Gives.by rfl rfl (W.seq ?_)
  repeat' first | ((with_reducible apply WR.c_a (f := 117) (fn := Code.f117)); (iterate 3 exact rfl); exact rfl; (focus ((repeat' first | exact args_nil | apply args_d | exact toD_d rfl | exact all_nil | apply all_cons | exact rfl); done)); exact hgo) | ((with_reducible apply WR.c_s (f := 77) (fn := Code.f77)); (iterate 3 exact rfl); exact rfl; (focus ((repeat' first | exact args_nil | apply args_d | exact toD_d rfl | exact all_nil | apply all_cons | exact rfl); done)); exact ho) | ((with_reducible first | apply WR.mv | apply WR.fa | apply WR.un | apply WR.bu); exact rfl; exact rfl) | ((with_reducible apply WR.ld); (iterate 3 exact rfl); (first | exact ld2 | exact loadC_all (IsLawn.len (by assumption)))) | ((with_reducible apply WR.st); (iterate 3 exact rfl); exact st2) | ((with_reducible apply WR.st); (iterate 3 exact rfl); exact stM2) | (with_reducible first | apply WR.nil | refine andThen_n ?_ | refine andThen_r ?_ | refine W.seq ?_ | refine W.region ?_ | refine W.ret ?_) | ((with_reducible apply W.condT); exact rfl) | ((with_reducible apply Done.f); (intro hh hh2; exact (nomatch hh2)); (focus ((repeat' first | exact all_nil | apply all_cons | exact res_tmp rfl | exact res_cell rfl rfl (by first | exact IsLawn.len (by assumption) | exact rfl) | exact rfl); done)); (focus ((repeat' first | exact all_nil | apply all_cons | exact retOf_s rfl | exact retOf_a rfl | exact rfl); done)); exact rfl; (focus ((repeat' first | exact outs_nil | apply outs_d | exact rfl); done))) | ((with_reducible apply WR.bx); exact rfl; exact rfl; exact (by first | exact IsLawn.len (by assumption) | exact rfl); (first | (focus ((repeat' first | (with_reducible apply noPar_set) | ((with_reducible apply noPar_puto); exact rfl) | (with_reducible apply noPar_kill) | exact rfl); done)) | exact rfl)) | ((with_reducible apply WR.al); exact rfl; (first | (focus ((repeat' first | (with_reducible apply noPar_set) | ((with_reducible apply noPar_puto); exact rfl) | (with_reducible apply noPar_kill) | exact rfl); done)) | exact rfl))
  rfl
set_option maxRecDepth 20000 in
theorem shortest_gives (l : IsLawn w h g cs) (hok : LawnOk w h g) (c : Cel) (hO : Opn w h g c.1 c.2) (hA : (ofKind w h g 0).length ≤ 9) (hB : (those w h fun c => Opn w h g c.1 c.2).length ≤ 16) : Gives G 448 [aa cs, ac c.1 c.2] (wayRes (shortW w h g (ofKind w h g 0) c)) := by
  have hs := hok.1
  have hs2 := hok.2.1
  have hs3 : w ≤ 10 ∧ h ≤ 10 := by omega
  have hwc := wholeCode_gives l hok c hO hA hB
  have hbt := bits_gives l (by omega)
  have nd : (ofKind w h g 0).Nodup := (allC_nodup (h := h) (by omega)).filter _
  generalize ofKind w h g 0 = A at hA hbt nd ⊢
  have hbg := begin_gives l hA c
  have hbm := bitC_lt nd c
  have hno := fun (x : Mw) (j : Nat) (hj : j < 4) (hx : Has w h x.1.1 x.1.2) (hm : x.2 < 512) (hO : OpnS w h g x j) => next_open l hs3 hA x hj hx hm hO
  have hns := fun (x : Mw) (j : Nat) (hj : j < 4) (hx : Has w h x.1.1 x.1.2) (hO : ¬ OpnS w h g x j) => next_shut l hs3 x hj hx hO (es := encM (numM A 0))
  have hMl := numM_len A 0
  generalize numM A 0 = M at hbt hbg hno hns hMl
  simp only [mowC] at hbg
  have hq0 := SInv.first (w := w) (h := h) (g := g) nd hO
  have hR : shortW w h g A c = srch (nxtW w h g A) (AllM A.length) lw 51200 [((c, bitC A c), [])] 0 := rfl
  have hk9 := pow_le9 hA
  have hk1 : 1 ≤ 2 ^ A.length := Nat.pow_pos (by decide)
  obtain ⟨K, hK⟩ : ∃ K : Nat, 2 ^ A.length = K := ⟨_, rfl⟩
  have hKM : 2 ^ M.length = K := by rw [hMl, hK]
  generalize shortW w h g A c = R at hR ⊢
  generalize bitC A c = m0 at hbg hbm hq0 hR
  rw [hK] at hk9 hk1 hbm
  refine Gives.by rfl rfl (W.seq ?_)
  repeat' first | ((with_reducible apply WR.c_s (f := 455) (fn := Code.f455)); (iterate 3 exact rfl); exact rfl; (focus ((repeat' first | exact args_nil | apply args_d | exact toD_d rfl | exact rfl); done)); exact hwc) | ((with_reducible apply WR.c_k (f := 456) (fn := Code.f456)); (iterate 3 exact rfl); exact rfl; (focus ((repeat' first | exact args_nil | apply args_d | exact toD_d rfl | exact rfl); done)); exact hbt; (first | (focus ((repeat' first | (with_reducible apply noPar_set) | ((with_reducible apply noPar_puto); exact rfl) | (with_reducible apply noPar_putm) | (with_reducible apply noPar_kill) | exact rfl); done)) | exact rfl)) | ((with_reducible apply WR.c_a (f := 457) (fn := Code.f457)); (iterate 3 exact rfl); exact rfl; (focus ((repeat' first | exact args_nil | apply args_d | exact toD_d rfl | exact rfl); done)); exact hbg) | ((with_reducible apply WH.wmkm); iterate 4 exact rfl) | ((with_reducible apply WH.wput (Q := []) (x := c.1) (y := c.2) (n := m0)); exact (fun hh => nomatch hh); iterate 6 exact rfl) | ((with_reducible apply WH.lenM); iterate 3 exact rfl) | ((with_reducible apply WH.shK hKM); omega; iterate 3 exact rfl) | ((with_reducible apply WR.bM1); iterate 3 exact rfl) | ((with_reducible apply WR.mv); exact rfl; exact rfl) | ((with_reducible first | apply WH.mv | apply WR.neq); iterate 3 exact rfl) | ((with_reducible apply WR.ld); (iterate 3 exact rfl); (first | exact ld2 | exact ldM4 | exact loadC_all (IsLawn.len (by assumption)))) | ((with_reducible apply WH.ld); (iterate 3 exact rfl); (first | exact ld2 | exact ldM4 | exact loadC_all (IsLawn.len (by assumption))); exact rfl) | ((with_reducible apply WR.st); (iterate 3 exact rfl); exact stM2) | (with_reducible first | apply WR.nil | refine andThen_n ?_ | refine W.seq ?_ | refine W.region ?_ | refine W.skip ?_ | refine W.block ?_ | apply WH.nil | refine W.draw ?_) | ((with_reducible apply W.condF); exact rfl) | (intro hb; try (exfalso; omega)) | ((with_reducible apply WR.bx); exact rfl; exact rfl; exact (by first | exact IsLawn.len (by assumption) | exact rfl); (first | (focus ((repeat' first | (with_reducible apply noPar_set) | ((with_reducible apply noPar_puto); exact rfl) | (with_reducible apply noPar_putm) | (with_reducible apply noPar_kill) | exact rfl); done)) | exact rfl)) | ((with_reducible apply WR.al); exact rfl; (first | (focus ((repeat' first | (with_reducible apply noPar_set) | ((with_reducible apply noPar_puto); exact rfl) | (with_reducible apply noPar_putm) | (with_reducible apply noPar_kill) | exact rfl); done)) | exact rfl)) | ((with_reducible apply WH.sb); (iterate 3 exact rfl); (exact i64_in _ (by omega)))
  clear hb hwc hbt hbg
  (refine (?_ : W _ (Code.loop _) _ _))
  (refine W.loopM [2, 7, 9, 10] [2, 25] [12, 14, 90, 91] (fun ((Q, i, Lq, k, off, m, n) : (List Stt) × (Nat) × (List Mw) × (Nat) × (Nat) × (Nat) × (Nat)) => (n : Nat)) (fun ((Q, i, Lq, k, off, m, n) : (List Stt) × (Nat) × (List Mw) × (Nat) × (Nat) × (Nat) × (Nat)) => (off = k * 4 ∧ k ≤ Lq.length ∧ m = Lq.length - k ∧ Lq.drop k = (Q.map Prod.fst).drop i ∧ Lq.length ≤ Q.length ∧ i ≤ Q.length ∧ R = srch (nxtW w h g A) (AllM A.length) lw n Q i ∧ n + i = 51200 ∧ SInv w h g A Q : Prop)) (fun z : (List Stt) × (Nat) × (List Mw) × (Nat) × (Nat) × (Nat) × (Nat) => match z with | (Q, i, Lq, k, off, m, n) => [(11, .a (.sl 38 off m 4))]) (fun z : (List Stt) × (Nat) × (List Mw) × (Nat) × (Nat) × (Nat) × (Nat) => match z with | (Q, i, Lq, k, off, m, n) => [(38, .flat false (encX mowC Lq)), (30, .map KW (encW Q))]) ([((c, m0), [])], 0, [(c, m0)], 0, 0, 1, 51200) (⟨rfl, by simp, rfl, rfl, by simp, by simp, hR, rfl, hq0⟩) ⟨rfl, trivial⟩ ⟨rfl, rfl, trivial⟩ ⟨nm, nm, nm, nm, trivial⟩ ?_)
  rintro ⟨Q, i, Lq, k, off, m, n⟩ σ hP hN; dsimp only [setL, putL] at hP ⊢; obtain ⟨n12, hN⟩ := hN; obtain ⟨n14, hN⟩ := hN; obtain ⟨n90, hN⟩ := hN; obtain ⟨n91, hN⟩ := hN
  obtain ⟨hoff, hk, hm, hdr, hll, hi, hRn, hni, hI⟩ := hP
  have hbd := hI.bound hs3 hA
  have hdl : Lq.length - k = Q.length - i := by
    have := congrArg List.length hdr
    simpa using this
  by_cases hm0 : m = 0
  · repeat' first | ((with_reducible first | apply WR.mv | apply WR.le); exact rfl; exact rfl) | (with_reducible first | apply WR.nil | refine andThen_n ?_ | refine andThen_x ?_ | refine inB_x ?_ | refine W.seq ?_ | refine W.region ?_ | refine W.ret ?_ | refine W.exit ?_) | ((with_reducible apply W.condF); exact rfl) | ((with_reducible apply Done.f); (intro hh hh2; exact (nomatch hh2)); (focus ((repeat' first | exact all_nil | apply all_cons | exact res_tmp rfl); done)); (focus ((repeat' first | exact all_nil | apply all_cons | exact retOf_s rfl); done)); exact rfl; (focus ((repeat' first | exact outs_nil | apply outs_d); done))) | (intro hb; try (exfalso; omega)) | ((with_reducible apply WR.gtr); iterate 3 exact rfl)
    rw [hRn, srch_end (by omega)]; rfl
  · have hil : i < Q.length := by omega
    have hx := gQ_get hil
    have hxm : gQ Q i ∈ Q := List.mem_of_getElem? hx
    generalize gQ Q i = x at hx hxm
    obtain ⟨n', rfl⟩ : ∃ n', n = n' + 1 := ⟨n - 1, by omega⟩
    have hfx := hI.fine x hxm
    have hlx := hI.len x hxm
    have hga := fndW_at hI.nd hxm
    have hxl : Lq[k]? = some x.1 := by
      have h1 : (Lq.drop k)[0]? = ((Q.map Prod.fst).drop i)[0]? := by rw [hdr]
      rw [List.getElem?_drop, List.getElem?_drop, List.getElem?_map] at h1
      simpa [hx] using h1
    have hxH := hfx.1.1
    have hxb := hfx.2
    rw [hK] at hxb
    have hstep := fun hg => srch_go (w := w) (h := h) (g := g) (L := A) (n := n') hx hg
    have hyes := fun hg => srch_yes (w := w) (h := h) (g := g) (L := A) (n := n') hx hg
    rw [hK] at hstep hyes
    have hld : loadC 4 true (encX mowC Lq) (off + Int.toNat 0 * 4) = some (.a (.d (.agg [.int .i8 x.1.1.1, .int .i8 x.1.1.2, .int .u8 0, .int .i64 (x.1.2 : Nat)]))) := by
      rw [hoff]; exact ldX mowC_len hxl
    have hkl : k < Lq.length := by omega
    repeat' first | ((with_reducible apply WR.wgV hga); iterate 4 exact rfl) | ((with_reducible first | apply WR.mv | apply WR.lx | apply WR.fa | apply WR.le); exact rfl; exact rfl) | ((with_reducible apply WR.ld); (iterate 3 exact rfl); (first | exact ldM4 | exact ldAt (by assumption))) | ((with_reducible apply WR.st); (iterate 3 exact rfl); exact stM2) | (with_reducible first | apply WR.nil | refine andThen_n ?_ | refine andThen_r ?_ | refine inB_r ?_ | refine W.seq ?_ | refine W.region ?_ | refine W.skip ?_ | refine W.ret ?_ | refine W.block ?_) | ((with_reducible apply W.condT); exact rfl) | ((with_reducible apply W.condF); exact rfl) | ((with_reducible apply Done.f); (intro hh hh2; exact (nomatch hh2)); (focus ((repeat' first | exact all_nil | apply all_cons | exact res_tmp rfl); done)); (focus ((repeat' first | exact all_nil | apply all_cons | exact retOf_s rfl); done)); exact rfl; (focus ((repeat' first | exact outs_nil | apply outs_d); done))) | (intro hb; try (exfalso; omega)) | ((with_reducible apply WR.al); exact rfl; (assumption)) | ((with_reducible first | apply WR.gtr | apply WR.eql); iterate 3 exact rfl) | ((with_reducible apply WR.is); (iterate 3 exact rfl); omega)
    · rw [hRn, hyes (by omega)]; rfl
    · rw [hstep (by omega)] at hRn
      have hex := fun j => SInv.exN nd hI (x := x) ⟨hfx.2, hlx⟩ j
      (refine (?_ : W _ (Code.loop _) _ _))
      (refine W.loopM [2, 7, 9, 10, 12] [2, 12, 25] [12, 14, 90, 91] (fun ((j, E, Lp, kp, op, mp) : (Nat) × (List Stt) × (List Mw) × (Nat) × (Nat) × (Nat)) => (4 - j : Nat)) (fun ((j, E, Lp, kp, op, mp) : (Nat) × (List Stt) × (List Mw) × (Nat) × (Nat) × (Nat)) => (j ≤ 4 ∧ E = exN w h g A x Q j ∧ op = kp * 4 ∧ kp < Lp.length ∧ mp = Lp.length - kp ∧ Lp.drop kp = (E.map Prod.fst).drop i ∧ Lp.length ≤ E.length : Prop)) (fun z : (Nat) × (List Stt) × (List Mw) × (Nat) × (Nat) × (Nat) => match z with | (j, E, Lp, kp, op, mp) => [(11, .a (.sl 38 op mp 4)), (54, .a (.d (.s (.int .i64 (j : Nat)))))]) (fun z : (Nat) × (List Stt) × (List Mw) × (Nat) × (Nat) × (Nat) => match z with | (j, E, Lp, kp, op, mp) => [(38, .flat false (encX mowC Lp)), (30, .map KW (encW E))]) (0, Q, Lq, k, off, m) (⟨by omega, rfl, hoff, hkl, hm, hdr, hll⟩) ⟨rfl, rfl, trivial⟩ ⟨rfl, rfl, trivial⟩ ⟨nm, nm, nm, nm, trivial⟩ ?_)
      rintro ⟨j, E, Lp, kp, op, mp⟩ σ hP hN; dsimp only [setL, putL] at hP ⊢; obtain ⟨n12, hN⟩ := hN; obtain ⟨n14, hN⟩ := hN; obtain ⟨n90, hN⟩ := hN; obtain ⟨n91, hN⟩ := hN
      obtain ⟨hj, hE, hop, hkp, hmp, hdp, hlp⟩ := hP
      have hexj := hex j
      have hsu := exN_succ (w := w) (h := h) (g := g) (L := A) x Q j
      have hget := exN_get (w := w) (h := h) (g := g) (L := A) (x := x) hI.nd hil j
      rw [← hE] at hexj hsu hget
      rw [hx] at hget
      have hEb := hexj.1.bound hs3 hA
      have hgaE := fndW_at hexj.1.nd (List.mem_of_getElem? hget)
      have hlE := hexj.2
      by_cases hj4 : j < 4
      · by_cases hOp : OpnS w h g x.1 j
        · have hc1 := hno x.1 j hj4 hxH (by omega) hOp
          by_cases hin : yS A x.1 j ∈ E.map Prod.fst
          · rw [expand_in hin] at hsu
            have hse : (fndW E (yS A x.1 j)).isSome = true := by rw [fndW_is, decide_eq_true hin]
            generalize yS A x.1 j = y at hc1 hse
            repeat' first | ((with_reducible apply WH.c_as (f := 458) (fn := Code.f458)); (iterate 3 exact rfl); exact rfl; (focus ((repeat' first | exact args_nil | apply args_d | exact toD_d rfl | exact rfl); done)); exact hc1; exact rfl) | ((with_reducible apply WR.wgT hse); iterate 4 exact rfl) | ((with_reducible apply WR.mv); exact rfl; exact rfl) | ((with_reducible first | apply WR.mvt | apply WR.fa | apply WR.ex | apply WR.un | apply WR.pk); exact rfl; exact rfl) | ((with_reducible apply WH.mv); iterate 3 exact rfl) | ((with_reducible first | apply WH.mvt | apply WH.ex | apply WR.lss); iterate 3 exact rfl) | ((with_reducible apply WR.ld); (iterate 3 exact rfl); (first | exact ldM4 | exact loadC_all (IsLawn.len (by assumption)))) | ((with_reducible apply WH.ld); (iterate 3 exact rfl); (first | exact ldM4 | exact loadC_all (IsLawn.len (by assumption))); exact rfl) | ((with_reducible apply WR.st); iterate 4 exact rfl) | (with_reducible first | apply WR.nil | refine andThen_n ?_ | refine inB_n ?_ | refine W.seq ?_ | refine W.region ?_ | refine W.skip ?_ | refine W.block ?_ | apply WH.nil | refine W.draw ?_) | ((with_reducible apply W.condT); exact rfl) | ((with_reducible apply W.condF); exact rfl) | (intro hb; try (exfalso; omega)) | ((with_reducible apply WR.ad); (iterate 3 exact rfl); (first | exact i64_in _ (by omega) | assumption)) | ((with_reducible apply WH.ist); (iterate 3 exact rfl); (first | omega | (simp only [List.length_cons, List.length_nil]; omega))) | ((with_reducible apply WH.al); exact rfl; (first | assumption | exact rfl); exact rfl; exact rfl) | ((with_reducible apply WH.st); (iterate 3 exact rfl); exact stM2; exact rfl; exact rfl)
            (refine W.nxt (j + 1, E, Lp, kp, op, mp) (by first | omega | (dsimp only; omega)) ?_ ⟨rfl, rfl, trivial⟩ ⟨rfl, rfl, trivial⟩ ⟨rfl, rfl, rfl, rfl, rfl, trivial⟩ ⟨rfl, rfl, rfl, trivial⟩ ⟨nm, nm, nm, nm, trivial⟩); (try dsimp only)
            exact ⟨by omega, hsu.symm, hop, hkp, hmp, hdp, hlp⟩
          · rw [expand_new hOp hin] at hsu
            have hse : (fndW E (yS A x.1 j)).isSome = false := by rw [fndW_is, decide_eq_false hin]
            generalize yS A x.1 j = y at hc1 hse hsu hin
            repeat' first | ((with_reducible apply WH.c_as (f := 458) (fn := Code.f458)); (iterate 3 exact rfl); exact rfl; (focus ((repeat' first | exact args_nil | apply args_d | exact toD_d rfl | exact rfl); done)); exact hc1; exact rfl) | ((with_reducible apply WR.wgT hse); iterate 4 exact rfl) | ((with_reducible apply WH.wgV hgaE); iterate 4 exact rfl) | ((with_reducible apply WH.slL hj4); iterate 4 exact rfl) | ((with_reducible apply WH.wput hin); iterate 6 exact rfl) | ((with_reducible apply WR.apM (k := kp)); (iterate 5 exact rfl); exact hop; exact hmp; omega; omega) | ((with_reducible apply WR.mv); exact rfl; exact rfl) | ((with_reducible first | apply WR.mvt | apply WR.fa | apply WR.ex | apply WR.un | apply WR.pk); exact rfl; exact rfl) | ((with_reducible apply WH.mv); iterate 3 exact rfl) | ((with_reducible first | apply WH.mvt | apply WH.ex | apply WR.lss); iterate 3 exact rfl) | ((with_reducible apply WR.ld); (iterate 3 exact rfl); (first | exact ldM4 | exact loadC_all (IsLawn.len (by assumption)))) | ((with_reducible apply WH.ld); (iterate 3 exact rfl); (first | exact ldM4 | exact loadC_all (IsLawn.len (by assumption))); exact rfl) | ((with_reducible apply WR.st); iterate 4 exact rfl) | (with_reducible first | apply WR.nil | refine andThen_n ?_ | refine inB_n ?_ | refine W.seq ?_ | refine W.region ?_ | refine W.skip ?_ | refine W.block ?_ | apply WH.nil | refine W.draw ?_) | ((with_reducible apply W.condT); exact rfl) | (intro hb; try (exfalso; omega)) | ((with_reducible apply WR.bs); exact rfl; exact rfl; (first | assumption | (focus ((repeat' first | (with_reducible apply noPar_set) | ((with_reducible apply noPar_puto); exact rfl) | (with_reducible apply noPar_putm) | (with_reducible apply noPar_kill) | ((with_reducible apply noPar_mix); exact rfl) | assumption | exact rfl); done)) | exact rfl)) | ((with_reducible apply WH.sad); (iterate 3 exact rfl); (first | omega | (simp only [List.length_append, List.length_cons, List.length_nil, List.length_map]; omega))) | ((with_reducible apply WH.ad); (iterate 3 exact rfl); (first | exact i64_in _ (by omega) | assumption)) | ((with_reducible apply WR.ad); (iterate 3 exact rfl); (first | exact i64_in _ (by omega) | assumption)) | ((with_reducible apply WH.ist); (iterate 3 exact rfl); (first | omega | (simp only [List.length_cons, List.length_nil]; omega))) | ((with_reducible apply WH.al); exact rfl; (first | assumption | (focus ((repeat' first | (with_reducible apply noPar_set) | ((with_reducible apply noPar_puto); exact rfl) | (with_reducible apply noPar_putm) | (with_reducible apply noPar_kill) | ((with_reducible apply noPar_mix); exact rfl) | assumption | exact rfl); done)) | exact rfl); exact rfl; exact rfl) | ((with_reducible apply WH.st); (iterate 3 exact rfl); exact stM2; exact rfl; exact rfl)
            (refine W.nxt (j + 1, E ++ [(y, x.2 ++ [lw j])], Lp.drop kp ++ [y], 0, 0, (Lp.drop kp ++ [y]).length) (by first | omega | (dsimp only; omega)) ?_ ⟨rfl, rfl, trivial⟩ ⟨rfl, rfl, trivial⟩ ⟨rfl, rfl, rfl, rfl, rfl, trivial⟩ ⟨rfl, rfl, rfl, trivial⟩ ⟨nm, nm, nm, nm, trivial⟩); (try dsimp only)
            refine ⟨by omega, hsu.symm, rfl, by simp, by simp, ?_, ?_⟩
            · rw [List.drop_zero, hdp, List.map_append, List.drop_append_of_le_length (by rw [List.length_map]; omega)]; rfl
            · rw [List.length_append, List.length_append, List.length_drop]; simp only [List.length_singleton]; omega
        · have hc1 := hns x.1 j hj4 hxH hOp
          rw [expand_no hOp] at hsu
          repeat' first | ((with_reducible apply WH.c_as (f := 458) (fn := Code.f458)); (iterate 3 exact rfl); exact rfl; (focus ((repeat' first | exact args_nil | apply args_d | exact toD_d rfl | exact rfl); done)); exact hc1; exact rfl) | ((with_reducible apply WR.wgT (x := 0) (y := 0) (n := 0) rfl); iterate 4 exact rfl) | ((with_reducible apply WR.mv); exact rfl; exact rfl) | ((with_reducible first | apply WR.mvt | apply WR.fa | apply WR.ex | apply WR.pk); exact rfl; exact rfl) | ((with_reducible apply WH.mv); iterate 3 exact rfl) | ((with_reducible first | apply WH.mvt | apply WH.ex | apply WR.lss); iterate 3 exact rfl) | ((with_reducible apply WR.ld); (iterate 3 exact rfl); (first | exact ldM4 | exact loadC_all (IsLawn.len (by assumption)))) | ((with_reducible apply WH.ld); (iterate 3 exact rfl); (first | exact ldM4 | exact loadC_all (IsLawn.len (by assumption))); exact rfl) | ((with_reducible apply WR.st); iterate 4 exact rfl) | (with_reducible first | apply WR.nil | refine andThen_n ?_ | refine inB_n ?_ | refine W.seq ?_ | refine W.region ?_ | refine W.skip ?_ | refine W.block ?_ | apply WH.nil | refine W.draw ?_) | ((with_reducible apply W.condT); exact rfl) | ((with_reducible apply W.condF); exact rfl) | (intro hb; try (exfalso; omega)) | ((with_reducible apply WR.off); exact rfl) | ((with_reducible apply WR.ad); (iterate 3 exact rfl); (first | exact i64_in _ (by omega) | assumption)) | ((with_reducible apply WH.ist); (iterate 3 exact rfl); (first | omega | (simp only [List.length_cons, List.length_nil]; omega))) | ((with_reducible apply WH.al); exact rfl; (first | assumption | exact rfl); exact rfl; exact rfl) | ((with_reducible apply WH.st); (iterate 3 exact rfl); exact stM2; exact rfl; exact rfl)
          (refine W.nxt (j + 1, E, Lp, kp, op, mp) (by first | omega | (dsimp only; omega)) ?_ ⟨rfl, rfl, trivial⟩ ⟨rfl, rfl, trivial⟩ ⟨rfl, rfl, rfl, rfl, rfl, trivial⟩ ⟨rfl, rfl, rfl, trivial⟩ ⟨nm, nm, nm, nm, trivial⟩); (try dsimp only)
          exact ⟨by omega, hsu.symm, hop, hkp, hmp, hdp, hlp⟩
      · obtain rfl : j = 4 := by omega
        repeat' first | ((with_reducible apply WR.mv); exact rfl; exact rfl) | (with_reducible first | apply WR.nil | refine andThen_n ?_ | refine andThen_x ?_ | refine inB_n ?_ | refine inB_x ?_ | refine W.seq ?_ | refine W.region ?_ | refine W.exit ?_) | ((with_reducible apply W.condF); exact rfl) | (intro hb; try (exfalso; omega)) | ((with_reducible apply WR.lss); iterate 3 exact rfl) | ((with_reducible apply WR.s2); exact rfl; exact rfl; exact rfl; (exact rfl); exact ⟨by omega, by omega⟩)
        (refine W.nxt (E, i + 1, Lp, kp + 1, op + 1 * 4, mp - 1, n') (by first | omega | (dsimp only; omega)) ?_ ⟨rfl, trivial⟩ ⟨rfl, rfl, trivial⟩ ⟨rfl, rfl, rfl, rfl, trivial⟩ ⟨rfl, rfl, trivial⟩ ⟨nm, nm, nm, nm, trivial⟩); (try dsimp only)
        refine ⟨by omega, by omega, by omega, ?_, hlp, by omega, by rw [hRn, hE], by omega, hexj.1⟩
        have := congrArg (List.drop 1) hdp
        rwa [List.drop_drop, List.drop_drop] at this
end Go.DM
